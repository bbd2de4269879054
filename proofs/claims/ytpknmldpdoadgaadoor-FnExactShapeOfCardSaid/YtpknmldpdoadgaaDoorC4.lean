/- Part 4 of a proof: TextS, Shelf, TextI, ShapeForm, JoinK, JoinWf, JoinP, ShapeSame, ShapeSameS, PvJ2, PvJ3, ShapeForm2, Box, ShapeIs, Region, ShapeOkS, PvJ4, PvJ5, PvB3, OwnSl, PrefS0, Keys, Sub, Texts, Steps, ValBox, App0, Step -/
import Derived.Test.YtpknmldpdoadgaaDoorC3
import Derived.Shelf.Unicode.ValidAny
import Derived.Test.YtpknmldpdoadgaaDoorProg
import Derived.Deep.RegionHeld3
import Derived.Deep.QuietTactic
import Derived.BigQuiet
import Derived.Deep.AppendLies
import Derived.StillTailTactics
import Derived.Deep.DeepCutAuto
import Derived.Laws.OwnMore

/- Whether a text is right: the contracts of Signs and TextOk of the reference. -/
namespace Go.Proofs.YtpknmldpdoadgaaDoor
open Go.RowKit Go.Lib

theorem tyI : ElemTy Tryd.prog 98 3 1 8 := ElemTy.mk' Tryd.underlying98 (z := .int .i64 0) (by kernel_rfl) rfl (by decide)

theorem signAt_bd {l : List UInt8} {k : Nat} (_ : k ≤ l.length) : -1 ≤ (signAt l k).1 ∧ (signAt l k).1 ≤ 1114111 ∧ -1 ≤ (signAt l k).2 ∧ (signAt l k).2 ≤ l.length := by
  unfold signAt; split
  · rename_i h
    rw [Int.toNat_natCast]
    cases hs : sgn (l.drop k) with
    | none => simp; try omega
    | some r =>
      obtain ⟨n, m⟩ := r
      have := sgn_bd hs
      simp [List.length_drop] at this ⊢; omega
  · simp; try omega
theorem signAt_step {l : List UInt8} {k : Nat} (hk : k < l.length) : ((signAt l k).2 < 0 ∧ validD (l.drop k) = false) ∨ (∃ m : Nat, (signAt l k).2 = (k + m : Nat) ∧ 1 ≤ m ∧ k + m ≤ l.length ∧ validD (l.drop k) = validD (l.drop (k + m))) := by
  have hne : l.drop k ≠ [] := by simp; omega
  have hv := validD_sgn (l.drop k) hne
  cases hs : sgn (l.drop k) with
  | none => rw [hs] at hv; left; rw [signAt_none hs]; exact ⟨by simp, hv⟩
  | some r =>
    obtain ⟨n, m⟩ := r
    have := sgn_bd hs
    rw [hs] at hv; right; rw [signAt_some hk hs]; simp [List.length_drop, List.drop_drop] at this hv ⊢
    exact ⟨m, rfl, by omega, by omega, hv⟩

set_option maxHeartbeats 1000000 in
set_option maxRecDepth 10000 in
theorem signs_spec (l : List UInt8) (w : World) (hl : l.length ≤ 4294967295) :
    Calls Tryd.prog 97 #[.string ⟨l.toArray⟩] w fun e w' => (∃ a n c, e = .returned (.slice a n c) ∧ n ≤ 4294967295 ∧ (l ≠ [] → (decide (0 < n)) = validD l)) ∧ Below w.heap.size w w' := by
  obtain ⟨ok, hok⟩ : ∃ ok, validD l = ok := ⟨_, rfl⟩
  rw [hok]
  go_enter Tryd.func97, Tryd.ntmps97
  go_wp2
  go_loopw [3, 4] (fun v i wr => ∃ (k : Nat) (xs : List Value), k ≤ l.length ∧ i = .int .i64 k ∧ OwnR wr w.heap.size 3 v xs ∧ xs.length ≤ k ∧ (0 < k → 0 < xs.length) ∧ validD (l.drop k) = ok ∧ Below w.heap.size w wr) (fun _ i _ => l.length - (RowKit.intOf i).toNat)
  case atStart => exact ⟨0, [], Nat.zero_le _, rfl, OwnR.start, by simp, by simp, by simpa using hok, (Below.refl _ _).alloc (Nat.le_refl _) _⟩
  case round =>
    obtain ⟨k, xs, hk, rfl, hown, hx1, hx2, hv, hbel⟩ := hrel
    have HV := Lib.hid hv; clear hv hok
    have hsz := hbel.size
    obtain ⟨a, c, rfl⟩ := hown.any
    by_cases hlt : k < l.length
    · have hki : i64ok k := ⟨by omega, by omega⟩
      have HB := signAt_bd (l := l) (k := k) hk
      have HS := Lib.hid (signAt_step hlt)
      obtain ⟨p, hp⟩ : ∃ p, signAt l k = p := ⟨_, rfl⟩
      have HC : Hid (∀ w, Calls Tryd.prog 101 #[.string ⟨l.toArray⟩, .int .i64 k] w fun e w' => e = .returned (.tuple #[.int .i64 p.1, .int .i64 p.2]) ∧ Below w.heap.size w w') := by
        intro w; rw [← hp]; exact getSign_spec l k w hki (by omega)
      rw [hp] at HB HS
      clear hp
      obtain ⟨p1, p2⟩ := p
      simp only at HB HS HC
      obtain ⟨HB1, HB2, HB3, HB4⟩ := HB
      by_cases hneg : p2 < 0
      · have hf : ok = false := by
          rcases HS.out with ⟨_, h2⟩ | ⟨m, h1, _⟩
          · rw [← HV.out, h2]
          · omega
        have HF := Lib.hid hf
        clear hf
        go_wp2_with (go_at_call 101; refine (HC.out _).mono ?_; rintro e w1 ⟨rfl, hb1⟩)
        go_ret
        exact ⟨⟨_, _, _, rfl, by simp, fun _ => by rw [HF.out]; rfl⟩, (below2 hbel hb1 (Nat.le_refl _)).alloc (Nat.le_trans hsz hb1.size) _⟩
      · obtain ⟨m, hm1, hm2, hm3, hm4⟩ : ∃ m : Nat, p2 = (k + m : Nat) ∧ 1 ≤ m ∧ k + m ≤ l.length ∧ validD (l.drop k) = validD (l.drop (k + m)) := by
          rcases HS.out with ⟨h1, _⟩ | h
          · omega
          · exact h
        subst hm1
        have HM := Lib.hid hm4
        clear hm4
        go_wp2_with (first | (go_at_call 101; refine (HC.out _).mono ?_; rintro e w1 ⟨rfl, hb1⟩) | (at_builtin; refine wp_appR (ys := [.int .i64 p1]) tyI rfl rfl w.heap.size ((hown.below hb1).alloc _) rfl ⟨w1.heap.size, 0, none⟩ 1 rfl (cell_one_new _ _ _) (by simp [Value.oneCell']) (by simp; omega) (by decide) (by have := hb1.size; simp; omega) ?_))
        intro v' w2 hown1 hgr _
        have hbel1 := OwnR.grown ((hown.below hb1).alloc _) ((below2 hbel hb1 (Nat.le_refl _)).alloc (Nat.le_trans hsz hb1.size) _) hgr (by have := hb1.size; simp; omega)
        clear hown hbel
        go_wp2
        go_roundw
        case rel => exact ⟨k + m, _, hm3, by go_num, hown1, by simp; omega, by simp, by rw [← HM.out]; exact HV.out, hbel1⟩
        case measure => simp [RowKit.intOf]; omega
    · obtain rfl : k = l.length := by omega
      have h1 := HV.out
      rw [List.drop_length] at h1
      have HF := Lib.hid h1
      clear h1
      go_wp2
      go_ret
      exact ⟨⟨_, _, _, rfl, by omega, fun hne => by rw [← HF.out, decide_eq_true (hx2 (List.length_pos_iff.2 hne))]; rfl⟩, hbel⟩

theorem isEmpty_of {l : List UInt8} (h : l ≠ []) : l.toArray.toList.isEmpty = false := by simp [h]
set_option maxRecDepth 10000 in
theorem textOk_spec (l : List UInt8) (w : World) (hl : l.length ≤ 4294967295) :
    Calls Tryd.prog 90 #[.string ⟨l.toArray⟩] w fun e w' => e = .returned (.bool (validD l)) ∧ Below w.heap.size w w' := by
  by_cases h : l = []
  · subst h
    go_enter Tryd.func90, Tryd.ntmps90
    go_wp2
    go_ret
    exact ⟨rfl, Below.refl _ _⟩
  · have HC := Lib.hid (signs_spec l w hl)
    have h1 : l.isEmpty = false := by simpa using h
    have HN := Lib.hid h
    clear h
    go_enter Tryd.func90, Tryd.ntmps90
    go_wp2_with (go_at_call 97; refine HC.out.mono ?_; rintro e w1 ⟨⟨a, n, c, rfl, hn, hv⟩, hb1⟩; have HV := Lib.hid (hv HN.out); clear hv)
    go_ret
    exact ⟨by rw [← HV.out]; rfl, hb1⟩
end Go.Proofs.YtpknmldpdoadgaaDoor

/-
  DERIVED: THE SHELF's CONTRACTS AT THIS DUMP, IN PLAIN WORDS (tools/lay-plain.mjs out of 'TrydShelf.lean', which tools/lay-shelf.mjs wrote): THE SAME DECLARATIONS UNDER THE SAME NAMES: 'import', 'namespace', 'open', 'def', 'theorem' AND NOTHING ELSE: no command of the shelf's: FOR A HAND-IN. Each laying: the table of numbers ('.._ren') and one theorem, a field a fact of the dump's own or the kernel's comparison; each contract: ONE APPLICATION.
-/
namespace Go.Proofs
open Go.Shelf
def Tryd.laysValid_ren : Go.Shelf.Ren := ⟨fun | 196 => 99 | 259 => 102 | n => n, fun | 9 => 9 | 4 => 4 | 3 => 3 | 5 => 5 | 12 => 12 | 119 => 106 | 0 => 0 | 46 => 110 | 139 => 109 | 138 => 108 | 53 => 112 | n => n, fun | 3 => 0 | 4 => 1 | n => n⟩
theorem Tryd.laysValid : Go.Proofs.Lays.n196 Tryd.prog Tryd.laysValid_ren := {
  mixed := by kernel_rfl
  f196 := Tryd.func99.trans (congrArg some (by kernel_rfl))
  f259 := Tryd.func102.trans (congrArg some (by kernel_rfl))
  t0 := Tryd.underlying0
  a0 := Tryd.isAgg0
  z0 := Tryd.sizeOf0
  v0 := Tryd.zeroValue0
  t3 := Tryd.underlying3
  a3 := Tryd.isAgg3
  z3 := Tryd.sizeOf3
  v3 := Tryd.zeroValue3
  t4 := Tryd.underlying4
  a4 := Tryd.isAgg4
  z4 := Tryd.sizeOf4
  v4 := Tryd.zeroValue4
  t5 := Tryd.underlying5
  a5 := Tryd.isAgg5
  z5 := Tryd.sizeOf5
  v5 := Tryd.zeroValue5
  t9 := Tryd.underlying9
  a9 := Tryd.isAgg9
  z9 := Tryd.sizeOf9
  v9 := Tryd.zeroValue9
  t12 := Tryd.underlying12
  a12 := Tryd.isAgg12
  z12 := Tryd.sizeOf12
  v12 := Tryd.zeroValue12
  t46 := Tryd.underlying110
  a46 := Tryd.isAgg110
  z46 := Tryd.sizeOf110
  v46 := Tryd.zeroValue110
  t53 := Tryd.underlying112
  a53 := Tryd.isAgg112
  z53 := Tryd.sizeOf112
  v53 := Tryd.zeroValue112
  t119 := Tryd.underlying106
  a119 := Tryd.isAgg106
  z119 := Tryd.sizeOf106
  t138 := Tryd.underlying108
  a138 := Tryd.isAgg108
  z138 := Tryd.sizeOf108
  v138 := Tryd.zeroValue108
  t139 := Tryd.underlying109
  a139 := Tryd.isAgg109
  z139 := Tryd.sizeOf109
  v139 := Tryd.zeroValue109
  g3 := by kernel_rfl
  g4 := by kernel_rfl }
open Go.RowKit Go.Lib in
theorem Tryd.utf8_ValidString (s : ByteArray) (w : World) (hs : s.size ≤ 9223372036854775807) (hT : Lib.Utf8Tabs 0 1 w) :
    Calls Tryd.prog 99 #[.string s] w fun e w' => e = .returned (.bool (Lib.validD s.data.toList)) ∧ Below w.heap.size w w' := Any.utf8_ValidString Tryd.laysValid s w hs hT
end Go.Proofs

/- Whether a text is right: the contract of TextOk of the program. -/
namespace Go.Proofs.YtpknmldpdoadgaaDoor
open Go.RowKit
open Go.Lib (validD)

/-- the two tables of UTF-8 hold what they should -/
def Tabs (w : World) : Prop := Lib.Utf8Tabs 0 1 w
theorem Tabs.below {w w' : World} (h : Tabs w) (hb : Below w.heap.size w w') : Tabs w' := Utf8Tabs_below h hb
theorem Tabs.lt {w : World} (h : Tabs w) : 0 < w.heap.size ∧ 1 < w.heap.size := by
  have key : ∀ {b o : Nat} {v : Value}, w.cell? ⟨b, o, none⟩ = some v → b < w.heap.size := by
    intro b o v h; apply Classical.byContradiction; intro hn
    simp [World.cell?, Array.getElem?_eq_none (Nat.le_of_not_lt hn)] at h
  exact ⟨key (h.1 0 (by decide)), key (h.2 0 (by decide)).1⟩
theorem Tabs.below' {B : Nat} {w w' : World} (h : Tabs w) (hb : Below B w w') (h1 : 0 < B) (h2 : 1 < B) : Tabs w' := by
  refine ⟨fun c hc => ?_, fun i hi => ?_⟩
  · rw [hb.cell (p := ⟨_, _, none⟩) h1]; exact h.1 c hc
  · rw [hb.cell (p := ⟨_, _, none⟩) h2, hb.cell (p := ⟨_, _, none⟩) h2]; exact h.2 i hi
theorem Tabs.alloc {w : World} (h : Tabs w) (o : Obj) : Tabs (w.alloc o) := h.below ((Below.refl _ _).alloc (Nat.le_refl _) o)
theorem Tabs.drew {w : World} (h : Tabs w) : Tabs w.drew := h.below ((Below.refl _ _).drew)

theorem textOk_impl (l : List UInt8) (w : World) (hl : l.length ≤ 4294967295) (hT : Tabs w) :
    Calls Tryd.prog 93 #[.string ⟨l.toArray⟩] w fun e w' => e = .returned (.bool (validD l)) ∧ Below w.heap.size w w' := by
  have HC := Lib.hid (Tryd.utf8_ValidString ⟨l.toArray⟩ w (by simp [ByteArray.size]; omega) hT)
  go_enter Tryd.func93, Tryd.ntmps93
  go_wp2_with (go_at_call 99; refine HC.out.mono ?_; rintro e w1 ⟨rfl, hb1⟩)
  go_ret
  exact ⟨rfl, hb1⟩
end Go.Proofs.YtpknmldpdoadgaaDoor

/- When a shape is right but for its kids: the program's hasBounds, isFields, isForm. -/
namespace Go.Proofs.YtpknmldpdoadgaaDoor
open Go.RowKit
open Go.Lib (validD)

def hasB (k : Int) : Bool := decide (k = 3) || (decide (k = 5) || (decide (k = 6) || decide (k = 7)))
theorem hasBounds_any (k : Int) (w : World) :
    Calls Tryd.prog 49 #[.int .i64 k] w fun e w' => e = .returned (.bool (hasB k)) ∧ w = w' := by
  by_cases h3 : k = 3
  · subst h3; go_enter Tryd.func49, Tryd.ntmps49; go_wp2; go_ret; exact ⟨rfl, rfl⟩
  by_cases h5 : k = 5
  · subst h5; go_enter Tryd.func49, Tryd.ntmps49; go_wp2; go_ret; exact ⟨rfl, rfl⟩
  by_cases h6 : k = 6
  · subst h6; go_enter Tryd.func49, Tryd.ntmps49; go_wp2; go_ret; exact ⟨rfl, rfl⟩
  by_cases h7 : k = 7
  · subst h7; go_enter Tryd.func49, Tryd.ntmps49; go_wp2; go_ret; exact ⟨rfl, rfl⟩
  have e3 : (k == 3) = false := by simpa using h3
  have e5 : (k == 5) = false := by simpa using h5
  have e6 : (k == 6) = false := by simpa using h6
  have e7 : (k == 7) = false := by simpa using h7
  have H := Lib.hid (show hasB k = false by simp [hasB, h3, h5, h6, h7])
  clear h3 h5 h6 h7
  go_enter Tryd.func49, Tryd.ntmps49; go_wp2; go_ret; exact ⟨by rw [H.out]; rfl, rfl⟩

theorem Rd.strRow {w : World} {ls : List (List UInt8)} {v : Value} (h : Rd w (dSs ls) [v]) : StrRow w v ls := by
  obtain ⟨a, c, rfl, hg⟩ := h.strs
  exact ⟨a, c, rfl, fun hne => by obtain ⟨_, _, b, o, ha, _, hc⟩ := hg hne; exact ⟨b, o, ha, hc⟩⟩
theorem StrRow.below {w w' : World} {ls : List (List UInt8)} {v : Value} (h : StrRow w v ls) (hb : Below w.heap.size w w') : StrRow w' v ls := by
  obtain ⟨a, c, rfl, hg⟩ := h
  exact ⟨a, c, rfl, fun hne => by
    obtain ⟨b, o, ha, hc⟩ := hg hne
    exact ⟨b, o, ha, fun k hk => by rw [hb.cell (p := ⟨b, o + k, none⟩) (cell_lt (hc k hk))]; exact hc k hk⟩⟩
theorem StrRow.alloc {w : World} {ls : List (List UInt8)} {v : Value} (h : StrRow w v ls) (o : Obj) : StrRow (w.alloc o) v ls := h.below ((Below.refl _ _).alloc (Nat.le_refl _) o)
theorem StrRow.take {w : World} {ls : List (List UInt8)} {a : Option Addr} {n c : Nat} (h : StrRow w (.slice a n c) ls) (k : Nat) (hk : k ≤ ls.length) : StrRow w (.slice a k c) (ls.take k) := by
  obtain ⟨a', c', he, hg⟩ := h
  simp only [Value.slice.injEq] at he
  obtain ⟨rfl, rfl, rfl⟩ := he
  refine ⟨a, c, by simp [Nat.min_eq_left hk], fun hne => ?_⟩
  have hne2 : ls ≠ [] := by intro e; subst e; simp at hne
  obtain ⟨b, o, ha, hc⟩ := hg hne2
  refine ⟨b, o, ha, fun j hj => ?_⟩
  rw [List.length_take] at hj
  rw [List.getElem_take]; exact hc j (by omega)
theorem ixF_bd : ∀ (ls : List (List UInt8)) (s : List UInt8) (k : Nat), ixF ls s k = -1 ∨ ((k : Int) ≤ ixF ls s k ∧ ixF ls s k < k + ls.length)
  | [], _, _ => .inl rfl
  | a :: r, s, k => by
    unfold ixF; split
    · right; simp; omega
    · rcases ixF_bd r s (k + 1) with h | h
      · exact .inl h
      · right; simp at h ⊢; omega
theorem ixF_mem : ∀ (ls : List (List UInt8)) (s : List UInt8) (k : Nat), (0 ≤ ixF ls s k) ↔ s ∈ ls
  | [], s, k => by simp [ixF]
  | a :: r, s, k => by
    unfold ixF; split
    · rename_i h; subst h; simp
    · rename_i h; rw [ixF_mem r s (k + 1)]; simp [Ne.symm h]
/-- slices.Contains at texts -/
theorem contains_any (ls : List (List UInt8)) (v : Value) (s : List UInt8) (w : World) (h : StrRow w v ls) (hl : ls.length ≤ 9223372036854775807) :
    Calls Tryd.prog 74 #[v, .string ⟨s.toArray⟩] w fun e w' => e = .returned (.bool (decide (s ∈ ls))) ∧ Below w.heap.size w w' := by
  have HC := Lib.hid (slicesIndex_any ls v s w h hl)
  have H := Lib.hid (show decide (s ∈ ls) = decide (0 ≤ ixF ls s 0) from decide_eq_decide.2 (ixF_mem ls s 0).symm)
  go_enter Tryd.func74, Tryd.ntmps74
  go_wp2_with (go_at_call 86; refine HC.out.mono ?_; rintro e w1 ⟨rfl, hb1⟩)
  go_ret
  exact ⟨by rw [H.out]; rfl, hb1⟩

set_option maxHeartbeats 1000000 in
set_option maxRecDepth 10000 in
theorem isFields_any (x : Sh) (cs : List Value) (w : World) (h : Rd w x.d cs) (hwf : x.wf) (hbk : x.bulk ≤ 4294967295) (hT : Tabs w) :
    Calls Tryd.prog 84 #[.agg cs.toArray] w fun e w' => e = .returned (.bool (match x with | .mk _ _ _ ks m kids => Sh.fields ks m kids.length)) ∧ Below w.heap.size w w' := by
  obtain ⟨k, l, hi, ks, m, kids, v1, v2, rfl, rfl, hk, hkids⟩ := Sh.lay h
  obtain ⟨ok, hok⟩ : ∃ ok, Sh.fields ks m kids.length = ok := ⟨_, rfl⟩
  simp only [hok]
  have HOK := Lib.hid hok; clear hok
  have hbk1 : ks.length ≤ 4294967295 ∧ kids.length ≤ 4294967295 := by simp only [Sh.bulk] at hbk; omega
  obtain ⟨hn1, hn2⟩ := hbk1
  have hstr : ∀ i (hi : i < ks.length), ks[i].length ≤ 4294967295 := fun i hi => by
    have h1 := ssBulk_snoc ks i hi; have h2 := ssBulk_take ks (i + 1); simp only [Sh.bulk] at hbk; omega
  have hrow := hk.strRow
  obtain ⟨a1, c1, rfl, hg⟩ := hk.strs
  obtain ⟨a2, c2, rfl⟩ := Rd.sl_form hkids
  rw [Sh.ds_map, List.length_map]
  have hm1 := hwf.2.2.2.2.1.1
  have hm2 := hwf.2.2.2.2.1.2
  clear hwf hbk h
  go_enter Tryd.func84, Tryd.ntmps84
  go_wp2
  obtain ⟨W0, hW0⟩ : ∃ W0, W0 = w.alloc (.cells #[.int .i64 k, .int .i64 l, .int .i64 hi, .slice a1 ks.length c1, .int .i64 m, .slice a2 kids.length c2] 29) := ⟨_, rfl⟩
  rw [← hW0]
  have hA : Below w.heap.size w W0 := by rw [hW0]; exact (Below.refl _ _).alloc (Nat.le_refl _) _
  have hz : w.heap.size < W0.heap.size := by rw [hW0]; simp
  have f3 : W0.cell? ⟨w.heap.size, 3, none⟩ = some (.slice a1 ks.length c1) := by rw [hW0]; simp
  have f4 : W0.cell? ⟨w.heap.size, 4, none⟩ = some (.int .i64 m) := by rw [hW0]; simp
  have f5 : W0.cell? ⟨w.heap.size, 5, none⟩ = some (.slice a2 kids.length c2) := by rw [hW0]; simp
  have hT0 : Tabs W0 := by rw [hW0]; exact hT.alloc _
  have hrow0 : StrRow W0 (.slice a1 ks.length c1) ks := by rw [hW0]; exact hrow.alloc _
  clear hW0
  go_loopw [8] (fun i wr => ∃ (j : Nat), j ≤ ks.length ∧ i = .int .i64 j ∧ keysOk (ks.take j) = true ∧ Below W0.heap.size W0 wr) (fun i _ => ks.length - (intOf i).toNat)
  case atStart => exact ⟨0, Nat.zero_le _, rfl, by simp [keysOk], Below.refl _ _⟩
  case round =>
    obtain ⟨j, hj, rfl, hko, hbel⟩ := hrel
    have HKO := Lib.hid hko; clear hko
    obtain ⟨hb0, _⟩ := bcell hbel
    by_cases hlt : j < ks.length
    · obtain ⟨hc0, _, b, o, rfl, hb, hcell⟩ := hg (by intro e; rw [e] at hlt; simp at hlt)
      have hc := hcell j hlt
      have hsl := hstr j hlt
      have hbelw := below2 hA hbel (Nat.le_refl _)
      obtain ⟨hbc, _⟩ := bcell hbelw
      clear hcell hg hstr
      have hi1 : (0 : Int) ≤ j := by omega
      have hi3 : (j : Int) < ks.length := by omega
      have hi4 : j ≤ c1 := by omega
      have hTr := hT0.below hbel
      have HC1 := Lib.hid (fun w1 (hb1 : Below wr.heap.size wr w1) => contains_any (ks.take j) _ ks[j] w1 (((hrow0.below hbel).below hb1).take j hj) (by rw [List.length_take]; omega))
      have HT1 := Lib.hid (textOk_impl ks[j] wr hsl hTr)
      have hsn : keysOk (ks.take (j + 1)) = (keyOk ks[j] && decide (ks[j] ∉ ks.take j)) := by
        rw [List.take_succ_eq_append_getElem hlt, keysOk_snoc, HKO.out, Bool.true_and]
      have HSN := Lib.hid hsn
      clear hsn hrow0 hrow hT hT0 hTr hk hkids
      by_cases q1 : ks[j].length ≤ 100
      · have q1' : ¬ (100 : Int) < ks[j].length := by omega
        by_cases q2 : validD ks[j] = true
        · by_cases q3 : ks[j] ∈ ks.take j
          · have Q2 := Lib.hid q2
            have Q3 := Lib.hid (decide_eq_true q3)
            have HF : Hid (Sh.fields ks m kids.length = false) := by
              show _ = _
              have : keysOk (ks.take (j + 1)) = false := by rw [HSN.out]; simp [q3]
              unfold Sh.fields; rw [keysOk_take _ this]; rfl
            clear q2 q3
            go_wp2_with (first | (go_at_call 93; refine HT1.out.mono ?_; rw [Q2.out]; rintro e w1 ⟨rfl, hb1⟩; obtain ⟨hb2, _⟩ := bcell hb1; have hz1 : w.heap.size < wr.heap.size := (by have := hbel.size; omega)) | (go_at_call 74; refine (HC1.out _ hb1).mono ?_; rw [Q3.out]; rintro e w2 ⟨rfl, hb2⟩))
            go_ret
            exact ⟨by rw [← HOK.out, HF.out]; rfl, below2 (below2 hbelw hb1 (Nat.le_refl _)) (by assumption) (Nat.le_refl _)⟩
          · have Q2 := Lib.hid q2
            have Q3 := Lib.hid (decide_eq_false q3)
            have HK : Hid (keysOk (ks.take (j + 1)) = true) := by
              show _ = _; rw [HSN.out]; simp [q3, keyOk, q1, q2]
            clear q2 q3
            go_wp2_with (first | (go_at_call 93; refine HT1.out.mono ?_; rw [Q2.out]; rintro e w1 ⟨rfl, hb1⟩; obtain ⟨hb2, _⟩ := bcell hb1; have hz1 : w.heap.size < wr.heap.size := (by have := hbel.size; omega)) | (go_at_call 74; refine (HC1.out _ hb1).mono ?_; rw [Q3.out]; rintro e w2 ⟨rfl, hb2⟩))
            go_roundw
            case rel => exact ⟨j + 1, by omega, by go_num, HK.out, below2 (below2 hbel hb1 (Nat.le_refl _)) (by assumption) (Nat.le_refl _)⟩
            case measure => simp [intOf]; omega
        · have Q2 := Lib.hid (show validD ks[j] = false by simpa using q2)
          have HF : Hid (Sh.fields ks m kids.length = false) := by
            show _ = _
            have : keysOk (ks.take (j + 1)) = false := by rw [HSN.out]; simp [keyOk, q2]
            unfold Sh.fields; rw [keysOk_take _ this]; rfl
          clear q2
          go_wp2_with (first | (go_at_call 93; refine HT1.out.mono ?_; rw [Q2.out]; rintro e w1 ⟨rfl, hb1⟩))
          go_ret
          exact ⟨by rw [← HOK.out, HF.out]; rfl, below2 hbelw hb1 (Nat.le_refl _)⟩
      · have q1' : (100 : Int) < ks[j].length := by omega
        have HF : Hid (Sh.fields ks m kids.length = false) := by
          show _ = _
          have : keysOk (ks.take (j + 1)) = false := by rw [HSN.out]; simp [keyOk, q1]
          unfold Sh.fields; rw [keysOk_take _ this]; rfl
        clear q1
        go_wp2
        go_ret
        exact ⟨by rw [← HOK.out, HF.out]; rfl, hbelw⟩
    · obtain rfl : j = ks.length := by omega
      have HK := HKO.out
      rw [List.take_length] at HK
      have HF : Hid (ok = (decide (kids.length = ks.length) && (decide (0 ≤ m) && decide (m ≤ ks.length)))) := by
        show _ = _; rw [← HOK.out]; unfold Sh.fields; rw [HK]; rfl
      clear HK
      have hbelw := below2 hA hbel (Nat.le_refl _)
      by_cases q : kids.length = ks.length
      · have q' : ((kids.length : Int) == ks.length) = true := by simp [q]
        have Q := Lib.hid q; clear q
        go_wp2_with (go_at_call 83; refine (within_any _ _ _ _).mono ?_; rintro e w1 ⟨rfl, rfl⟩)
        go_ret
        exact ⟨by rw [HF.out, decide_eq_true Q.out]; rfl, hbelw⟩
      · have q' : ((kids.length : Int) == ks.length) = false := by simp; omega
        have Q := Lib.hid q; clear q
        go_wp2_with (go_at_call 83; refine (within_any _ _ _ _).mono ?_; rintro e w1 ⟨rfl, rfl⟩)
        go_ret
        exact ⟨by rw [HF.out, decide_eq_false Q.out]; rfl, hbelw⟩
end Go.Proofs.YtpknmldpdoadgaaDoor

/- The keys of the join of two maps, key by key. No program in sight. -/
namespace Go.Proofs.YtpknmldpdoadgaaDoor
open Go.RowKit

theorem ixF_nodup : ∀ (ks : List (List UInt8)) (j : Nat) (h : j < ks.length) (i : Nat), ks.Nodup → ixF ks ks[j] i = i + j
  | k :: ks, 0, _, i, _ => by rw [ixF, List.getElem_cons_zero, if_pos rfl]; simp
  | k :: ks, j + 1, h, i, hn => by
    rw [List.nodup_cons] at hn
    have hj : j < ks.length := by simpa using h
    rw [List.getElem_cons_succ, ixF, if_neg (fun e => hn.1 (by rw [e]; exact List.getElem_mem hj)), ixF_nodup ks j hj (i + 1) hn.2]
    omega
def bothB (a b : Sh) (k : List UInt8) : Bool := decide (0 ≤ ixF a.keys k 0) && (decide (0 ≤ ixF b.keys k 0) && (decide (ixF a.keys k 0 < a.must) && decide (ixF b.keys k 0 < b.must)))
def jK1 (a b : Sh) (j : Nat) : List (List UInt8) := ((a.keys.take j).take a.must.toNat).filter (mustIn b)
theorem jK1_end (a b : Sh) : jK1 a b a.keys.length = jKeys1 a b := by unfold jK1 jKeys1; rw [List.take_length]
theorem jK1_step {a b : Sh} {j : Nat} (h : j < a.keys.length) (hn : a.keys.Nodup) (hm : 0 ≤ a.must) : jK1 a b (j + 1) = if bothB a b a.keys[j] = true then jK1 a b j ++ [a.keys[j]] else jK1 a b j := by
  have hix := ixF_nodup a.keys j h 0 hn
  have hB : bothB a b a.keys[j] = (decide (j < a.must.toNat) && mustIn b a.keys[j]) := by
    unfold bothB mustIn; rw [hix]
    have e1 : decide ((0 : Int) ≤ ((0 : Nat) : Int) + (j : Int)) = true := decide_eq_true (by omega)
    have e2 : decide (((0 : Nat) : Int) + (j : Int) < a.must) = decide (j < a.must.toNat) := decide_eq_decide.2 (by omega)
    rw [e1, e2, Bool.true_and]
    cases decide (j < a.must.toNat) <;> simp
  rw [hB]
  unfold jK1
  by_cases hj : j < a.must.toNat
  · rw [decide_eq_true hj, Bool.true_and, List.take_take, List.take_take, Nat.min_eq_right (by omega), Nat.min_eq_right (by omega), List.take_succ_eq_append_getElem h, List.filter_append]
    cases hp : mustIn b a.keys[j] with
    | true => rw [if_pos rfl]; simp [hp]
    | false => rw [if_neg (by decide)]; simp [hp]
  · rw [decide_eq_false hj, Bool.false_and, if_neg (by decide), List.take_take, List.take_take, Nat.min_eq_left (by omega), Nat.min_eq_left (by omega)]
theorem jK1_len (a b : Sh) (j : Nat) : (jK1 a b j).length ≤ a.keys.length := by
  unfold jK1
  refine Nat.le_trans (List.length_filter_le _ _) ?_
  rw [List.length_take, List.length_take]; omega
/-- what is known of a right map -/
theorem ok_map {a : Sh} (h : a.ok = true) (hk : a.kind = 8) : a.keys.Nodup ∧ a.kids.length = a.keys.length ∧ 0 ≤ a.must ∧ a.must ≤ a.keys.length ∧ a.keys.length ≤ 100 ∧ (∀ k ∈ a.keys, k.length ≤ 100) := by
  have hb := Sh.ok_bulk h
  unfold Sh.ok at h; simp only [Bool.and_eq_true, decide_eq_true_eq] at h
  obtain ⟨k, l, hi, ks, m, kids⟩ := a
  simp only [Sh.right, Bool.and_eq_true] at h
  have hk8 : k = 8 := hk
  subst hk8
  obtain ⟨h1, h2, h3, h4⟩ := sh_self8 h.1.2.2
  have hnd : ks.Nodup := by unfold keysOk at h1; simp only [Bool.and_eq_true, decide_eq_true_eq] at h1; exact h1.2
  have hlen : kids.length ≤ Sh.nodess kids := by
    have := Sh.rights_bulk _ kids h.1.1; omega
  have hnn : 1 + Sh.nodess kids ≤ 100 := hb.2
  exact ⟨hnd, h2, h3, h4, by show ks.length ≤ 100; omega, keysOk_len h1⟩
end Go.Proofs.YtpknmldpdoadgaaDoor

/- What is joined is well formed, and not great. No program in sight. -/
namespace Go.Proofs.YtpknmldpdoadgaaDoor
open Go.RowKit

theorem addK_mem (x : List UInt8) : ∀ (ks acc : List (List UInt8)), x ∈ addK acc ks → x ∈ acc ∨ x ∈ ks
  | [], acc, h => .inl h
  | k :: ks, acc, h => by
    simp only [addK] at h
    rcases addK_mem x ks _ h with h | h
    · split at h
      · exact .inl h
      · rcases List.mem_append.1 h with h | h
        · exact .inl h
        · right; rw [List.mem_singleton.1 h]; simp
    · right; simp [h]
theorem jKeys_mem (a b : Sh) (x : List UInt8) (h : x ∈ jKeys a b) : x ∈ a.keys ∨ x ∈ b.keys := by
  unfold jKeys at h
  rcases addK_mem x _ _ h with h | h
  · unfold jKeys1 at h; exact .inl (List.mem_of_mem_take ((List.mem_filter.1 h).1))
  · exact List.mem_append.1 h
theorem jKeys1_len (a b : Sh) : (jKeys1 a b).length ≤ a.keys.length := by
  rw [← jK1_end]; exact jK1_len a b _
theorem jKeys_len (a b : Sh) : (jKeys a b).length ≤ a.keys.length + (a.keys.length + b.keys.length) := by
  unfold jKeys
  have h1 := addK_len (jKeys1 a b) (a.keys ++ b.keys)
  have h2 := jKeys1_len a b
  rw [List.length_append] at h1; omega
def GoodF (f : Sh → Sh → Sh) : Prop := ∀ a b : Sh, a.wf → b.wf → (f a b).wf ∧ (f a b).bulk ≤ 10200
theorem shNil_good : shNil.wf ∧ shNil.bulk ≤ 10200 := by
  constructor
  · simp [shNil, Sh.wf, Sh.wfs, i64ok]
  · simp [shNil, Sh.bulk, Sh.bulks, ssBulk]
theorem Sh.wf_kids {a : Sh} (h : a.wf) : Sh.wfs a.kids := by obtain ⟨k, l, hi, ks, m, kids⟩ := a; exact h.2.2.2.2.2.2
theorem Sh.bulk_kid {a : Sh} (i : Nat) (hi : i < a.kids.length) : a.kids[i].bulk ≤ a.bulk := by
  have h1 := Sh.bulk_in a.kids i hi
  obtain ⟨k, l, h, ks, m, kids⟩ := a
  simp only [Sh.bulk]; simp only [Sh.kids] at h1 ⊢; omega
theorem kids_good {a : Sh} (ha : a.wf) (hk : a.bulk ≤ 10200) (i : Nat) : (a.kids.getD i shNil).wf ∧ (a.kids.getD i shNil).bulk ≤ 10200 := by
  by_cases hi : i < a.kids.length
  · rw [List.getD_eq_getElem?_getD, List.getElem?_eq_getElem hi, Option.getD_some]
    exact ⟨Sh.wfs_get (Sh.wf_kids ha) i hi, Nat.le_trans (Sh.bulk_kid i hi) hk⟩
  · rw [List.getD_eq_getElem?_getD, List.getElem?_eq_none (by omega), Option.getD_none]
    exact shNil_good
theorem headD_good {a : Sh} (ha : a.wf) (hk : a.bulk ≤ 10200) : (a.kids.headD shNil).wf ∧ (a.kids.headD shNil).bulk ≤ 10200 := by
  have := kids_good ha hk 0
  have e : a.kids.headD shNil = a.kids.getD 0 shNil := by cases a.kids <;> rfl
  rw [e]; exact this
theorem jKid_good {f : Sh → Sh → Sh} (hf : GoodF f) {a b : Sh} (ha : a.wf) (hb : b.wf) (ka : a.bulk ≤ 10200) (kb : b.bulk ≤ 10200) (k : List UInt8) : (jKid f a b k).wf ∧ (jKid f a b k).bulk ≤ 10200 := by
  have h1 : (kidAt a k).wf ∧ (kidAt a k).bulk ≤ 10200 := kids_good ha ka _
  have h2 : (kidAt b k).wf ∧ (kidAt b k).bulk ≤ 10200 := kids_good hb kb _
  unfold jKid
  split
  · split
    · exact hf _ _ h1.1 h2.1
    · exact h1
  · exact h2
theorem bulks_map_le {g : List UInt8 → Sh} {n : Nat} : ∀ ks : List (List UInt8), (∀ k ∈ ks, (g k).bulk ≤ n) → Sh.bulks (ks.map g) ≤ n * ks.length
  | [], _ => by simp [Sh.bulks]
  | k :: ks, h => by
    have h1 := h k (by simp)
    have h2 := bulks_map_le ks (fun x hx => h x (by simp [hx]))
    simp only [List.map_cons, Sh.bulks, List.length_cons, Nat.mul_succ]; omega
theorem wfs_map {g : List UInt8 → Sh} : ∀ ks : List (List UInt8), (∀ k ∈ ks, (g k).wf) → Sh.wfs (ks.map g)
  | [], _ => by simp [Sh.wfs]
  | k :: ks, h => by
    simp only [List.map_cons, Sh.wfs]
    exact ⟨h k (by simp), wfs_map ks (fun x hx => h x (by simp [hx]))⟩
theorem join1_good {f : Sh → Sh → Sh} (hf : GoodF f) {a b : Sh} (ha : a.wf) (hb : b.wf) (hoa : a.ok = true) (hob : b.ok = true) : (join1 f a b).wf ∧ (join1 f a b).bulk ≤ 4294967295 := by
  have ka := (Sh.ok_bulk hoa).1
  have kb := (Sh.ok_bulk hob).1
  unfold join1
  split
  · exact ⟨ha, by omega⟩
  split
  · have h1 := headD_good ha ka
    have h2 := headD_good hb kb
    have h3 := hf _ _ h1.1 h2.1
    have hka : i64ok a.kind := by obtain ⟨k, l, hi, ks, m, kids⟩ := a; exact ha.1
    have hla : i64ok a.low := by obtain ⟨k, l, hi, ks, m, kids⟩ := a; exact ha.2.1
    have hja : i64ok a.high := by obtain ⟨k, l, hi, ks, m, kids⟩ := a; exact ha.2.2.1
    have hlb : i64ok b.low := by obtain ⟨k, l, hi, ks, m, kids⟩ := b; exact hb.2.1
    have hjb : i64ok b.high := by obtain ⟨k, l, hi, ks, m, kids⟩ := b; exact hb.2.2.1
    have hmin : i64ok (min a.low b.low) := by unfold i64ok at *; omega
    have hmax : i64ok (max a.high b.high) := by unfold i64ok at *; omega
    have h0 : i64ok 0 := by unfold i64ok; omega
    split
    · refine ⟨⟨hka, hmin, hmax, ⟨by simp, by simp⟩, h0, by simp, ?_⟩, ?_⟩
      · exact ⟨h3.1, trivial⟩
      · simp only [Sh.bulk, Sh.bulks, ssBulk, List.length_cons, List.length_nil]; omega
    · refine ⟨⟨hka, hmin, hmax, ⟨by simp, by simp⟩, h0, by simp, trivial⟩, ?_⟩
      simp [Sh.bulk, Sh.bulks, ssBulk]
  split
  · exact ⟨by simp [Sh.wf, Sh.wfs, i64ok], by simp [Sh.bulk, Sh.bulks, ssBulk]⟩
  split
  · rename_i h
    obtain ⟨_, hla, _, _, hla1, hka1⟩ := ok_map hoa h.1
    obtain ⟨_, hlb, _, _, hlb1, hkb1⟩ := ok_map hob h.2
    have hlen : (jKeys a b).length ≤ 300 := by have := jKeys_len a b; omega
    have hl1 : (jKeys1 a b).length ≤ 100 := by have := jKeys1_len a b; omega
    have hk100 : ∀ k ∈ jKeys a b, k.length ≤ 100 := fun k hk => (jKeys_mem a b k hk).elim (hka1 k) (hkb1 k)
    have hkid := fun k => jKid_good hf ha hb ka kb k
    unfold joinMaps
    refine ⟨⟨by unfold i64ok; omega, by unfold i64ok; omega, by unfold i64ok; omega, ⟨by omega, ?_⟩, by unfold i64ok; omega, by rw [List.length_map]; omega, wfs_map _ fun k _ => (hkid k).1⟩, ?_⟩
    · intro s hs; have := hk100 s hs; unfold strok; omega
    · have h1 := ssBulk_le _ hk100
      have h2 := bulks_map_le (g := jKid f a b) (jKeys a b) fun k _ => (hkid k).2
      simp only [Sh.bulk, List.length_map]
      omega
  · exact ⟨shNil_good.1, by have := shNil_good.2; omega⟩
theorem joinS_good : ∀ n, GoodF (joinS n)
  | 0 => fun _ _ _ _ => shNil_good
  | n + 1 => fun a b ha hb => by
    simp only [joinS]
    split
    · rename_i h
      simp only [Bool.and_eq_true] at h
      split
      · rename_i h2
        exact ⟨(join1_good (joinS_good n) ha hb h.1 h.2).1, (Sh.ok_bulk h2).1⟩
      · exact shNil_good
    · exact shNil_good
end Go.Proofs.YtpknmldpdoadgaaDoor

/- What is known of joins, case by case. No program in sight. -/
namespace Go.Proofs.YtpknmldpdoadgaaDoor
open Go.RowKit

theorem kidAt_eq {a : Sh} {k : List UInt8} {t : Nat} (h : ixF a.keys k 0 = (t : Int)) (ht : t < a.kids.length) : kidAt a k = a.kids[t] := by
  unfold kidAt; rw [h]; simp [List.getD, List.getElem?_eq_getElem ht]
theorem ix_at {ks : List (List UInt8)} {k : List UInt8} {n : Nat} (h : 0 ≤ ixF ks k 0) (hn : ks.length ≤ n) : ∃ t : Nat, ixF ks k 0 = (t : Int) ∧ t < n := by
  rcases ixF_bd ks k 0 with h2 | ⟨h2, h3⟩
  · omega
  · exact ⟨(ixF ks k 0).toNat, by omega, by omega⟩
theorem join1_same {f : Sh → Sh → Sh} {a b : Sh} (h : a = b) : join1 f a b = a := by unfold join1; rw [if_pos ((Sh.same_iff a b).2 h)]
theorem ne_same {a b : Sh} (h : a ≠ b) : ¬ Sh.same a b = true := fun e => h ((Sh.same_iff a b).1 e)
theorem join1_num {f : Sh → Sh → Sh} {a b : Sh} (h : a ≠ b) (hn : (numK a.kind && numK b.kind) = true) (hk : a.kind ≠ b.kind) : join1 f a b = .mk 4 0 0 [] 0 [] := by
  unfold join1; rw [if_neg (ne_same h), if_neg (fun e => hk e.1), if_pos hn]
theorem join1_diff {f : Sh → Sh → Sh} {a b : Sh} (h : a ≠ b) (hn : (numK a.kind && numK b.kind) = false) (hk : a.kind ≠ b.kind) : join1 f a b = shNil := by
  unfold join1; rw [if_neg (ne_same h), if_neg (fun e => hk e.1), if_neg (by rw [hn]; decide), if_neg (fun e => hk (e.1.trans e.2.symm))]
theorem join1_maps {f : Sh → Sh → Sh} {a b : Sh} (h : a ≠ b) (ha : a.kind = 8) (hb : b.kind = 8) : join1 f a b = joinMaps f a b := by
  unfold join1; rw [if_neg (ne_same h), if_neg (fun e => by rw [ha] at e; exact absurd e.2 (by decide)), if_neg (by rw [ha]; simp [numK]), if_pos ⟨ha, hb⟩]
theorem join1_bd {f : Sh → Sh → Sh} {a b : Sh} (h : a ≠ b) (hk : a.kind = b.kind) (hb : bdK a.kind = true) : join1 f a b = .mk a.kind (min a.low b.low) (max a.high b.high) [] 0 (if a.kind = 7 then [f (a.kids.headD shNil) (b.kids.headD shNil)] else []) := by
  unfold join1; rw [if_neg (ne_same h), if_pos ⟨hk, hb⟩]
theorem join1_none {f : Sh → Sh → Sh} {a b : Sh} (h : a ≠ b) (hk : a.kind = b.kind) (hb : bdK a.kind = false) (h4 : a.kind ≠ 4) (h8 : a.kind ≠ 8) : join1 f a b = shNil := by
  have h3 : a.kind ≠ 3 := by rintro e; rw [e] at hb; exact absurd hb (by decide)
  unfold join1
  rw [if_neg (ne_same h), if_neg (fun e => by rw [hb] at e; exact absurd e.2 (by decide)), if_neg, if_neg (fun e => h8 e.1)]
  unfold numK; simp [h3, h4]
theorem ok_four {a b : Sh} (ha : a.ok = true) (hb : b.ok = true) (h1 : a.kind = 4) (h2 : b.kind = 4) : a = b := by
  unfold Sh.ok at ha hb; simp only [Bool.and_eq_true, decide_eq_true_eq] at ha hb
  obtain ⟨k, l, hi, ks, m, kids⟩ := a
  obtain ⟨k', l', hi', ks', m', kids'⟩ := b
  simp only [Sh.right, Bool.and_eq_true] at ha hb
  have e1 : k = 4 := h1
  have e2 : k' = 4 := h2
  subst e1; subst e2
  exact sh_self_four ha.1.2.2 hb.1.2.2
theorem one_kid {a kid : Sh} {N : Nat} (h : a.kids = [kid]) : (a.nodes ≤ N + 1 → kid.nodes ≤ N) ∧ (a.wf → kid.wf) ∧ kid.bulk ≤ a.bulk := by
  obtain ⟨k, l, hi, ks, m, kids⟩ := a
  have h2 : kids = [kid] := h
  subst h2
  simp only [Sh.nodes, Sh.nodess, Sh.bulk, Sh.bulks]
  refine ⟨fun h => by omega, fun h => ?_, by omega⟩
  exact Sh.wfs_get (vs := [kid]) h.2.2.2.2.2.2 0 (by simp)
theorem ok_bd {a : Sh} (ha : a.ok = true) (hb : bdK a.kind = true) : a.keys.length = 0 ∧ a.must = 0 ∧ (a.kind ≠ 7 → a.kids = []) ∧ (a.kind = 7 → ∃ kid, a.kids = [kid]) := by
  unfold Sh.ok at ha; simp only [Bool.and_eq_true, decide_eq_true_eq] at ha
  obtain ⟨k, l, hi, ks, m, kids⟩ := a
  simp only [Sh.right, Bool.and_eq_true] at ha
  obtain ⟨h1, h2, h3, h4⟩ := sh_self_bd ha.1.2.2 hb
  exact ⟨by show ks.length = 0; rw [h1]; rfl, h2, h3, h4⟩
theorem bd_kinds {k : Int} (h : bdK k = true) : k = 3 ∨ k = 5 ∨ k = 6 ∨ k = 7 := by
  unfold bdK at h; simpa only [Bool.or_eq_true, decide_eq_true_eq] using h
theorem Sh.nodes_kid {a : Sh} {N : Nat} (hn : a.nodes ≤ N + 1) (i : Nat) (hi : i < a.kids.length) : a.kids[i].nodes ≤ N := by
  obtain ⟨k, l, h, ks, m, kids⟩ := a
  have := Sh.nodes_get kids i hi
  simp only [Sh.nodes] at hn
  show kids[i].nodes ≤ N; omega
theorem Sh.lens {a : Sh} (h : a.bulk ≤ 10200) : a.keys.length ≤ 10200 ∧ a.kids.length ≤ 10200 := by
  obtain ⟨k, l, hi, ks, m, kids⟩ := a; simp only [Sh.bulk] at h
  exact ⟨by show ks.length ≤ _; omega, by show kids.length ≤ _; omega⟩
end Go.Proofs.YtpknmldpdoadgaaDoor

/- Contracts of SameShape, the program's and the reference's. -/
namespace Go.Proofs.YtpknmldpdoadgaaDoor
open Go.RowKit

set_option maxHeartbeats 400000 in
theorem slicesEqual_strs (la lb : List (List UInt8)) (va vb : Value) (w : World) (h : Rd w (dSs la) [va]) (h2 : Rd w (dSs lb) [vb]) (hla : la.length ≤ 9223372036854775807) (hlb : lb.length ≤ 9223372036854775807) :
    Calls Tryd.prog 69 #[va, vb] w fun e w' => e = .returned (.bool (decide (la = lb))) ∧ Below w.heap.size w w' := by
  obtain ⟨a, c, rfl, hg⟩ := h.strs
  obtain ⟨a', c', rfl, hg'⟩ := h2.strs
  by_cases hlen : la.length = lb.length
  · have hlt : ((la.length : Int) != (lb.length : Int)) = false := by simp [hlen]
    have HL := Lib.hid hlen; clear hlen
    go_enter Tryd.func69, Tryd.ntmps69
    go_wp2
    go_loopw [13] (fun i wr => ∃ (k : Nat), k ≤ la.length ∧ i = .int .i64 k ∧ la.take k = lb.take k ∧ Below w.heap.size w wr) (fun i _ => la.length - (intOf i).toNat)
    case atStart => exact ⟨0, Nat.zero_le _, rfl, by simp, Below.refl _ _⟩
    case round =>
      obtain ⟨k, hk, rfl, htk, hbel⟩ := hrel
      have HT := Lib.hid htk; clear htk
      by_cases hk1 : k < la.length
      · have hk2 : k < lb.length := by have := HL.out; omega
        obtain ⟨_, _, b, o, rfl, hb, hcell⟩ := hg (by intro e; rw [e] at hk1; simp at hk1)
        obtain ⟨_, _, b', o', rfl, hb', hcell'⟩ := hg' (by intro e; rw [e] at hk2; simp at hk2)
        have hc := hcell k hk1
        have hc' := hcell' k hk2
        clear hcell hcell' hg hg'
        obtain ⟨hbc, _⟩ := bcell hbel
        have hi1 : (0 : Int) ≤ k := by omega
        have hi2 : (k : Int) < lb.length := by omega
        have hi3 : (k : Int) < la.length := by omega
        go_wp2
        go_quiet (fail)
        go_wp2
        · have hne : (!la[k] == lb[k]) = true := by assumption
          have hne' : ¬ la = lb := ne_of_get hk1 hk2 (by simpa using hne)
          go_ret
          exact ⟨by rw [decide_eq_false hne']; rfl, below_drewN hbel _⟩
        · have heq : (!la[k] == lb[k]) = false := by assumption
          go_roundw
          case rel => exact ⟨k + 1, by omega, by go_num, take_eq_snoc HT.out hk1 hk2 (by simpa using heq), below_drewN hbel _⟩
          case measure => simp [intOf] <;> omega
      · obtain rfl : k = la.length := by omega
        have he : la = lb := by have := HT.out; rw [List.take_length, HL.out, List.take_length] at this; exact this
        have H := Lib.hid (decide_eq_true he)
        clear he
        go_wp2
        go_ret
        exact ⟨by rw [H.out]; rfl, hbel⟩
  · have H := Lib.hid (decide_eq_false (show ¬ la = lb from fun e => hlen (by rw [e])))
    go_enter Tryd.func69, Tryd.ntmps69
    go_wp2
    go_ret
    exact ⟨by rw [H.out]; rfl, Below.refl _ _⟩

def SmA (n : Nat) : Prop := ∀ (x y : Sh) (cs ds : List Value) (w : World), x.nodes ≤ n → Rd w x.d cs → Rd w y.d ds → x.bulk ≤ 1048576 → y.bulk ≤ 1048576 →
  Calls Tryd.prog 48 #[.agg cs.toArray, .agg ds.toArray] w fun e w' => e = .returned (.bool (decide (x = y))) ∧ Below w.heap.size w w'
def SmB (n : Nat) : Prop := ∀ (x y : List Sh) (va vb : Value) (w : World), Sh.nodess x ≤ n → Rd w (.sl 6 (Sh.ds x)) [va] → Rd w (.sl 6 (Sh.ds y)) [vb] → x.length + Sh.bulks x ≤ 1048576 → y.length + Sh.bulks y ≤ 1048576 →
  Calls Tryd.prog 70 #[va, vb, .func (.func 48) #[] #[]] w fun e w' => e = .returned (.bool (decide (x = y))) ∧ Below w.heap.size w w'

set_option maxHeartbeats 800000 in
theorem SmB_of {n : Nat} (hA : SmA n) : SmB n := by
  intro la lb va vb w hn h h2 hla hlb
  obtain ⟨a, c, rfl, hg⟩ := h.shapes
  obtain ⟨a', c', rfl, hg'⟩ := h2.shapes
  by_cases hlen : la.length = lb.length
  · have hlt : ((la.length : Int) != (lb.length : Int)) = false := by simp [hlen]
    have HL := Lib.hid hlen; clear hlen
    go_enter Tryd.func70, Tryd.ntmps70
    go_wp2
    go_loopw [17] (fun i wr => ∃ (k : Nat), k ≤ la.length ∧ i = .int .i64 k ∧ la.take k = lb.take k ∧ Below w.heap.size w wr) (fun i _ => la.length - (intOf i).toNat)
    case atStart => exact ⟨0, Nat.zero_le _, rfl, by simp, Below.refl _ _⟩
    case round =>
      obtain ⟨k, hk, rfl, htk, hbel⟩ := hrel
      have HT := Lib.hid htk; clear htk
      by_cases hk1 : k < la.length
      · have hk2 : k < lb.length := by have := HL.out; omega
        obtain ⟨_, _, b, o, rfl, hb, hcell⟩ := hg (by intro e; rw [e] at hk1; simp at hk1)
        obtain ⟨_, _, b', o', rfl, hb', hcell'⟩ := hg' (by intro e; rw [e] at hk2; simp at hk2)
        obtain ⟨v0, v1, v2, v3, v4, v5, hr, c0, c1, c2, c3, c4, c5⟩ := hcell k hk1
        obtain ⟨x0, x1, x2, x3, x4, x5, hs, d0, d1, d2, d3, d4, d5⟩ := hcell' k hk2
        obtain ⟨k1, k2, k3, a4, n4, m4, k5, a6, n6, m6, hcs⟩ := Sh.form hr
        obtain ⟨j1, j2, j3, b4, p4, q4, j5, b6, p6, q6, hds⟩ := Sh.form hs
        simp only [List.cons.injEq, and_true] at hcs hds
        obtain ⟨rfl, rfl, rfl, rfl, rfl, rfl⟩ := hcs
        obtain ⟨rfl, rfl, rfl, rfl, rfl, rfl⟩ := hds
        clear hcell hcell' hg hg'
        obtain ⟨hbc, _⟩ := bcell hbel
        have hsz := hbel.size
        have hi1 : (0 : Int) ≤ k := by omega
        have hi2 : (k : Int) < lb.length := by omega
        have hi3 : (k : Int) < la.length := by omega
        have hz1 : b < wr.heap.size := by omega
        have hz2 : b' < wr.heap.size := by omega
        have hnk := Nat.le_trans (Sh.nodes_get la k hk1) hn
        have hr' := hr.below hbel
        have hs' := hs.below hbel
        have hA2 := (hbel.alloc hsz (.cells #[.int .i64 k1, .int .i64 k2, .int .i64 k3, .slice a4 n4 m4, .int .i64 k5, .slice a6 n6 m6] 29)).alloc (by simp; omega) (.cells #[.int .i64 j1, .int .i64 j2, .int .i64 j3, .slice b4 p4 q4, .int .i64 j5, .slice b6 p6 q6] 29)
        by_cases he : la[k] = lb[k]
        · have hd := Lib.hid (decide_eq_true he)
          have HE := Lib.hid he
          clear he
          go_wp2_with (go_at_call 48; refine (hA _ _ _ _ _ hnk ((hr'.alloc _).alloc _) ((hs'.alloc _).alloc _) (Sh.bulk_get hla k hk1) (Sh.bulk_get hlb k hk2)).mono ?_; rw [hd.out]; rintro e w1 ⟨rfl, hb1⟩)
          go_roundw
          case rel => exact ⟨k + 1, by omega, by go_num, take_eq_snoc HT.out hk1 hk2 HE.out, below2 hA2 hb1 (Nat.le_refl _)⟩
          case measure => simp [intOf] <;> omega
        · have hd := Lib.hid (decide_eq_false he)
          have HE := Lib.hid (decide_eq_false (ne_of_get hk1 hk2 he))
          clear he
          go_wp2_with (go_at_call 48; refine (hA _ _ _ _ _ hnk ((hr'.alloc _).alloc _) ((hs'.alloc _).alloc _) (Sh.bulk_get hla k hk1) (Sh.bulk_get hlb k hk2)).mono ?_; rw [hd.out]; rintro e w1 ⟨rfl, hb1⟩)
          go_ret
          exact ⟨by rw [HE.out]; rfl, below2 hA2 hb1 (Nat.le_refl _)⟩
      · obtain rfl : k = la.length := by omega
        have he : la = lb := by have := HT.out; rw [List.take_length, HL.out, List.take_length] at this; exact this
        have H := Lib.hid (decide_eq_true he)
        clear he
        go_wp2
        go_ret
        exact ⟨by rw [H.out]; rfl, hbel⟩
  · have H := Lib.hid (decide_eq_false (show ¬ la = lb from fun e => hlen (by rw [e])))
    go_enter Tryd.func70, Tryd.ntmps70
    go_wp2
    go_ret
    exact ⟨by rw [H.out]; rfl, Below.refl _ _⟩

set_option maxHeartbeats 800000 in
theorem SmA_of {n : Nat} (hB : SmB n) : SmA (n + 1) := by
  intro x y cs ds w hn h h2 hx hy
  obtain ⟨k, l, hi, ks, m, kids, v1, v2, rfl, rfl, hk, hkids⟩ := Sh.lay h
  obtain ⟨k', l', hi', ks', m', kids', v1', v2', rfl, rfl, hk', hkids'⟩ := Sh.lay h2
  have hnk : Sh.nodess kids ≤ n := by simp only [Sh.nodes] at hn; omega
  simp only [Sh.bulk] at hx hy
  have hA := ((Below.refl w.heap.size w).alloc (Nat.le_refl _) (.cells #[.int .i64 k, .int .i64 l, .int .i64 hi, v1, .int .i64 m, v2] 29)).alloc (by simp) (.cells #[.int .i64 k', .int .i64 l', .int .i64 hi', v1', .int .i64 m', v2'] 29)
  by_cases e1 : k = k' ∧ l = l' ∧ hi = hi'
  · obtain ⟨rfl, rfl, rfl⟩ := e1
    go_enter Tryd.func48, Tryd.ntmps48
    go_wp2_with fail
    refine (slicesEqual_strs ks ks' _ _ _ ((hk.alloc _).alloc _) ((hk'.alloc _).alloc _) (by omega) (by omega)).mono ?_
    by_cases e2 : ks = ks'
    · subst e2
      rw [decide_eq_true rfl]
      rintro e w1 ⟨rfl, hb1⟩
      have hb0 := below2 hA hb1 (Nat.le_refl _)
      obtain ⟨hc1, hf1⟩ := bcell hb1
      have hz1 := hb1.size
      simp at hz1
      have g1 : w.heap.size < w1.heap.size := by omega
      have g2 : w.heap.size + 1 < w1.heap.size := by omega
      by_cases e3 : m = m'
      · subst e3
        go_wp2_with fail
        refine (hB _ _ _ _ _ hnk ((hkids.below hb0)) (hkids'.below hb0) (by omega) (by omega)).mono ?_
        by_cases e4 : kids = kids'
        · subst e4
          rw [decide_eq_true rfl]
          rintro e w2 ⟨rfl, hb2⟩
          go_wp2
          go_ret
          exact ⟨by simp, below2 hb0 hb2 (Nat.le_refl _)⟩
        · have H := Lib.hid (Sh.ne_mk (k := k) (l := l) (hi := hi) (ks := ks) (m := m) (kids := kids) (k' := k) (l' := l) (hi' := hi) (ks' := ks) (m' := m) (kids' := kids') (by simp [e4]))
          rw [decide_eq_false e4]
          rintro e w2 ⟨rfl, hb2⟩
          clear e4
          go_wp2
          go_ret
          exact ⟨by rw [H.out]; rfl, below2 hb0 hb2 (Nat.le_refl _)⟩
      · have H := Lib.hid (Sh.ne_mk (k := k) (l := l) (hi := hi) (ks := ks) (m := m) (kids := kids) (k' := k) (l' := l) (hi' := hi) (ks' := ks) (m' := m') (kids' := kids') (by simp [e3]))
        go_wp2_with fail
        go_ret
        exact ⟨by rw [H.out]; rfl, hb0⟩
    · have H := Lib.hid (Sh.ne_mk (k := k) (l := l) (hi := hi) (ks := ks) (m := m) (kids := kids) (k' := k) (l' := l) (hi' := hi) (ks' := ks') (m' := m') (kids' := kids') (by simp [e2]))
      rw [decide_eq_false e2]
      rintro e w1 ⟨rfl, hb1⟩
      have hb0 := below2 hA hb1 (Nat.le_refl _)
      clear e2
      go_wp2_with fail
      go_ret
      exact ⟨by rw [H.out]; rfl, hb0⟩
  · have H := Lib.hid (Sh.ne_mk (k := k) (l := l) (hi := hi) (ks := ks) (m := m) (kids := kids) (k' := k') (l' := l') (hi' := hi') (ks' := ks') (m' := m') (kids' := kids') (by simp only [not_and] at e1 ⊢; intro a b c; exact absurd c (e1 a b)))
    go_enter Tryd.func48, Tryd.ntmps48
    go_wp2_with fail
    all_goals
      go_ret
      exact ⟨by rw [H.out]; rfl, ((Below.refl _ _).alloc (Nat.le_refl _) _).alloc (by simp) _⟩
end Go.Proofs.YtpknmldpdoadgaaDoor

/- Contract of the reference's SameShape. -/
namespace Go.Proofs.YtpknmldpdoadgaaDoor
open Go.RowKit

def SsA (n : Nat) : Prop := ∀ (x y : Sh) (cs ds : List Value) (w : World), x.nodes ≤ n → Rd w x.d cs → Rd w y.d ds → x.bulk ≤ 1048576 → y.bulk ≤ 1048576 →
  Calls Tryd.prog 43 #[.agg cs.toArray, .agg ds.toArray] w fun e w' => e = .returned (.bool (decide (x = y))) ∧ Below w.heap.size w w'

set_option maxHeartbeats 2000000 in
set_option maxRecDepth 100000 in
theorem SsA_of {n : Nat} (hA : SsA n) : SsA (n + 1) := by
  intro x y cs ds w hn h h2 hx hy
  obtain ⟨k, l, hi, ks, m, kids, v1, v2, rfl, rfl, hk, hkids⟩ := Sh.lay h
  obtain ⟨k', l', hi', ks', m', kids', v1', v2', rfl, rfl, hk', hkids'⟩ := Sh.lay h2
  have hnk : Sh.nodess kids ≤ n := by simp only [Sh.nodes] at hn; omega
  simp only [Sh.bulk] at hx hy
  obtain ⟨a1, c1, rfl, hg1⟩ := hk.strs
  obtain ⟨a1', c1', rfl, hg1'⟩ := hk'.strs
  obtain ⟨a2, c2, rfl, hg2⟩ := hkids.shapes
  obtain ⟨a2', c2', rfl, hg2'⟩ := hkids'.shapes
  by_cases e1 : k = k' ∧ l = l' ∧ hi = hi' ∧ m = m' ∧ ks.length = ks'.length ∧ kids.length = kids'.length
  · obtain ⟨rfl, rfl, rfl, rfl, e5, e6⟩ := e1
    have t5 : ((ks.length : Int) != (ks'.length : Int)) = false := by simp [e5]
    have t6 : ((kids.length : Int) != (kids'.length : Int)) = false := by simp [e6]
    have E5 := Lib.hid e5; have E6 := Lib.hid e6; clear e5 e6
    obtain ⟨W0, hW0⟩ : ∃ W0, W0 = ((w.alloc (.cells #[.int .i64 k, .int .i64 l, .int .i64 hi, .slice a1 ks.length c1, .int .i64 m, .slice a2 kids.length c2] 29)).alloc (.cells #[.int .i64 k, .int .i64 l, .int .i64 hi, .slice a1' ks'.length c1', .int .i64 m, .slice a2' kids'.length c2'] 29)) := ⟨_, rfl⟩
    have HW := Lib.hid hW0
    have hA2 : Below w.heap.size w W0 := by rw [hW0]; exact ((Below.refl _ _).alloc (Nat.le_refl _) _).alloc (by simp) _
    have f3 : W0.cell? ⟨w.heap.size, 3, none⟩ = some (.slice a1 ks.length c1) := by rw [hW0]; simp
    have f5 : W0.cell? ⟨w.heap.size, 5, none⟩ = some (.slice a2 kids.length c2) := by rw [hW0]; simp
    have f3' : W0.cell? ⟨w.heap.size + 1, 3, none⟩ = some (.slice a1' ks'.length c1') := by rw [hW0]; simp
    have f5' : W0.cell? ⟨w.heap.size + 1, 5, none⟩ = some (.slice a2' kids'.length c2') := by rw [hW0]; simp
    have z1 : w.heap.size < W0.heap.size := by rw [hW0]; simp; omega
    have z2 : w.heap.size + 1 < W0.heap.size := by rw [hW0]; simp
    clear hW0
    go_enter Tryd.func43, Tryd.ntmps43
    go_wp2_with fail
    rw [← HW.out]
    go_loopw [5] (fun i wr => ∃ (j : Nat), j ≤ ks.length ∧ i = .int .i64 j ∧ ks.take j = ks'.take j ∧ Below W0.heap.size W0 wr) (fun i _ => ks.length - (intOf i).toNat)
    case atStart => exact ⟨0, Nat.zero_le _, rfl, by simp, Below.refl _ _⟩
    case round =>
      obtain ⟨j, hj, rfl, htk, hbel⟩ := hrel
      have HT := Lib.hid htk; clear htk
      obtain ⟨hb0, _⟩ := bcell hbel
      by_cases hk1 : j < ks.length
      · have hk2 : j < ks'.length := by have := E5.out; omega
        obtain ⟨_, _, b, o, rfl, hb, hcell⟩ := hg1 (by intro e; rw [e] at hk1; simp at hk1)
        obtain ⟨_, _, b', o', rfl, hb', hcell'⟩ := hg1' (by intro e; rw [e] at hk2; simp at hk2)
        have hbelw := below2 hA2 hbel (Nat.le_refl _)
        obtain ⟨hbc, _⟩ := bcell hbelw
        have hc := hcell j hk1
        have hc' := hcell' j hk2
        clear hcell hcell' hg1 hg1' hg2 hg2'
        have hi1 : (0 : Int) ≤ j := by omega
        have hi2 : (j : Int) < ks'.length := by omega
        have hi3 : (j : Int) < ks.length := by omega
        go_wp2_with fail
        go_quiet (fail)
        go_wp2
        · have hne : (!ks[j] == ks'[j]) = true := by assumption
          have hne' : ¬ ks = ks' := ne_of_get hk1 hk2 (by simpa using hne)
          have H := Sh.ne_mk (k := k) (l := l) (hi := hi) (ks := ks) (m := m) (kids := kids) (k' := k) (l' := l) (hi' := hi) (ks' := ks') (m' := m) (kids' := kids') (by simp [hne'])
          go_ret
          exact ⟨by rw [H]; rfl, below_drewN hbelw _⟩
        · have heq : (!ks[j] == ks'[j]) = false := by assumption
          go_roundw
          case rel => exact ⟨j + 1, by omega, by go_num, take_eq_snoc HT.out hk1 hk2 (by simpa using heq), below_drewN hbel _⟩
          case measure => simp [intOf] <;> omega
      · obtain rfl : j = ks.length := by omega
        have he : ks = ks' := by have := HT.out; rw [List.take_length, E5.out, List.take_length] at this; exact this
        subst he
        have hbelw := below2 hA2 hbel (Nat.le_refl _)
        clear hg1 hg1'
        obtain ⟨w1, rfl⟩ : ∃ w1 : World, w1 = wr := ⟨_, rfl⟩
        go_wp2_with fail
        go_loopw [6] (fun i wr => ∃ (j : Nat), j ≤ kids.length ∧ i = .int .i64 j ∧ kids.take j = kids'.take j ∧ Below W0.heap.size W0 wr) (fun i _ => kids.length - (intOf i).toNat)
        case atStart => exact ⟨0, Nat.zero_le _, rfl, by simp, hbel⟩
        case round =>
          obtain ⟨j, hj, rfl, htk, hbel2⟩ := hrel
          have HT := Lib.hid htk; clear htk
          obtain ⟨hb02, _⟩ := bcell hbel2
          have hbelw2 := below2 hA2 hbel2 (Nat.le_refl _)
          by_cases hk1 : j < kids.length
          · have hk2 : j < kids'.length := by have := E6.out; omega
            obtain ⟨_, _, b, o, rfl, hb, hcell⟩ := hg2 (by intro e; rw [e] at hk1; simp at hk1)
            obtain ⟨_, _, b', o', rfl, hb', hcell'⟩ := hg2' (by intro e; rw [e] at hk2; simp at hk2)
            obtain ⟨v0, v1, v2, v3, v4, v5, hr, c0, c1, c2, c3, c4, c5⟩ := hcell j hk1
            obtain ⟨x0, x1, x2, x3, x4, x5, hs, d0, d1, d2, d3, d4, d5⟩ := hcell' j hk2
            obtain ⟨hbc2, _⟩ := bcell hbelw2
            clear hcell hcell' hg2 hg2' hb0
            have hi1 : (0 : Int) ≤ j := by omega
            have hi2 : (j : Int) < kids'.length := by omega
            have hi3 : (j : Int) < kids.length := by omega
            have hnk2 := Nat.le_trans (Sh.nodes_get kids j hk1) hnk
            have hr' := hr.below hbelw2
            have hs' := hs.below hbelw2
            have hq1 := Sh.bulk_get (m := 1048576) (ls := kids) (by omega) j hk1
            have hq2 := Sh.bulk_get (m := 1048576) (ls := kids') (by omega) j hk2
            by_cases he : kids[j] = kids'[j]
            · have hd := Lib.hid (decide_eq_true he)
              have HE := Lib.hid he
              clear he
              go_wp2_with fail
              go_still_tail 10, (by kernel_rfl)
              go_wp2_with (go_at_call 43; refine (hA _ _ _ _ _ hnk2 hr'.drew hs'.drew hq1 hq2).mono ?_; rw [hd.out]; rintro e w1 ⟨rfl, hb1⟩)
              go_roundw
              case rel => exact ⟨j + 1, by omega, by go_num, take_eq_snoc HT.out hk1 hk2 HE.out, below2 hbel2.drew hb1 (Nat.le_refl _)⟩
              case measure => simp [intOf] <;> omega
            · have hd := Lib.hid (decide_eq_false he)
              have HE := Lib.hid (Sh.ne_mk (k := k) (l := l) (hi := hi) (ks := ks) (m := m) (kids := kids) (k' := k) (l' := l) (hi' := hi) (ks' := ks) (m' := m) (kids' := kids') (by simp [ne_of_get hk1 hk2 he]))
              clear he
              go_wp2_with fail
              go_still_tail 10, (by kernel_rfl)
              go_wp2_with (go_at_call 43; refine (hA _ _ _ _ _ hnk2 hr'.drew hs'.drew hq1 hq2).mono ?_; rw [hd.out]; rintro e w1 ⟨rfl, hb1⟩)
              go_ret
              exact ⟨by rw [HE.out]; rfl, below2 hbelw2.drew hb1 (Nat.le_refl _)⟩
          · obtain rfl : j = kids.length := by omega
            have he : kids = kids' := by have := HT.out; rw [List.take_length, E6.out, List.take_length] at this; exact this
            clear hb0 hg2 hg2'
            subst he
            go_wp2_with fail
            go_ret
            exact ⟨by simp, hbelw2⟩
  · have H := Lib.hid (Sh.ne_mk (k := k) (l := l) (hi := hi) (ks := ks) (m := m) (kids := kids) (k' := k') (l' := l') (hi' := hi') (ks' := ks') (m' := m') (kids' := kids') (fun e => e1 ⟨e.1, e.2.1, e.2.2.1, e.2.2.2.2.1, by rw [e.2.2.2.1], by rw [e.2.2.2.2.2]⟩))
    go_enter Tryd.func43, Tryd.ntmps43
    go_wp2_with fail
    all_goals
      go_ret
      exact ⟨by rw [H.out]; rfl, ((Below.refl _ _).alloc (Nat.le_refl _) _).alloc (by simp) _⟩

theorem Ss_all : ∀ n, SsA n
  | 0 => fun sh y cs ds w hn => absurd (Sh.nodes_pos sh) (by omega)
  | n + 1 => SsA_of (Ss_all n)
theorem Sm_all : ∀ n, SmA n ∧ SmB n
  | 0 => by
    have h0 : SmA 0 := fun sh y cs ds w hn => absurd (Sh.nodes_pos sh) (by omega)
    exact ⟨h0, SmB_of h0⟩
  | n + 1 => by
    have h1 := SmA_of (Sm_all n).2
    exact ⟨h1, SmB_of h1⟩
theorem sameShape_impl (x y : Sh) (cs ds : List Value) (w : World) (h : Rd w x.d cs) (h2 : Rd w y.d ds) (hx : x.bulk ≤ 1048576) (hy : y.bulk ≤ 1048576) :
    Calls Tryd.prog 48 #[.agg cs.toArray, .agg ds.toArray] w fun e w' => e = .returned (.bool (decide (x = y))) ∧ Below w.heap.size w w' :=
  (Sm_all x.nodes).1 x y cs ds w (Nat.le_refl _) h h2 hx hy
theorem sameShape_spec (x y : Sh) (cs ds : List Value) (w : World) (h : Rd w x.d cs) (h2 : Rd w y.d ds) (hx : x.bulk ≤ 1048576) (hy : y.bulk ≤ 1048576) :
    Calls Tryd.prog 43 #[.agg cs.toArray, .agg ds.toArray] w fun e w' => e = .returned (.bool (decide (x = y))) ∧ Below w.heap.size w w' :=
  Ss_all x.nodes x y cs ds w (Nat.le_refl _) h h2 hx hy
end Go.Proofs.YtpknmldpdoadgaaDoor

/- spec.l15Both, l15Kid on values without memory. -/
namespace Go.Proofs.YtpknmldpdoadgaaDoor
open Go.RowKit
variable {T : World → Prop} {hT : Low ngl T}

theorem pS_val {C : Cx} {w : World} {k : List UInt8} {y : Value} (h : RpV C w (.d (pS k)) y) : y = .string ⟨k.toArray⟩ := by
  cases h with
  | d _ _ h => cases h; rfl
theorem l11_fn (ks : List (List UInt8)) (key : List UInt8) (hl : ks.length ≤ 4294967295) : FnV (env T hT) 63 [.d (pSs ks), .d (pS key)] (.d (pI (ixF ks key 0))) := by
  refine FnV.old rfl ?_
  intro w C vs hF hng hT hl2 hv
  match vs, hl2 with
  | [v, k], _ =>
    have h1 := vRd1 hF (dSs_wf ks) (dSs_pc ks) (hv 0 _ _ rfl rfl)
    have h2 := pS_val (hv 1 _ _ rfl rfl)
    subst h2
    exact l11At_any ks v key w h1.strRow (by omega)
theorem key_arg (ks : List (List UInt8)) (key : List UInt8) : PV.dats [.d (pSs ks), .d (pS key)] = some [.d (pSs ks), .d (pS key)] := congrArg (fun x => some [PV.d x, PV.d (pS key)]) (pSs_er ks)
theorem shkey_arg (x y : Sh) (key : List UInt8) : PV.dats [.ag (shC x), .ag (shC y), .d (pS key)] = some [.ag (shC x), .ag (shC y), .d (pS key)] := by
  show some [PV.ag (erL (shC x)), PV.ag (erL (shC y)), PV.d (pS key)] = _
  rw [shC_er, shC_er]

theorem both_fn (a b : Sh) (key : List UInt8) (ha : a.keys.length ≤ 4294967295) (hb : b.keys.length ≤ 4294967295) : FnV (env T hT) 62 [.ag (shC a), .ag (shC b), .d (pS key)] (.d (pB (bothB a b key))) := by
  refine fn_of (look_env lk_s_l15Both) (by show 3 ≤ 35; decide) fun B hB => ?_
  unfold m_s_l15Both
  refine mw_seq (mw_ops ?_)
  refine po_box rfl ?_
  refine po_box rfl ?_
  refine po_q rfl rfl ?_
  refine po_nil ?_
  refine mw_seq (mw_ops ?_)
  iterate 6 (refine po_q rfl rfl ?_)
  refine po_call (key_arg a.keys key) (l11_fn a.keys key ha) ?_
  refine po_call (key_arg b.keys key) (l11_fn b.keys key hb) ?_
  iterate 2 (refine po_q rfl rfl ?_)
  refine po_nil ?_
  refine mw_seq (mw_ops ?_)
  refine po_q rfl rfl ?_
  refine po_b rfl rfl (fun b1 hb1 => ?_)
  refine po_q rfl rfl ?_
  refine po_gq rfl (fun _ => rfl) ?_
  refine po_gb rfl (fun hb => by subst hb; exact rfl) (fun b2 hb2 => ?_)
  refine po_and rfl rfl (fun b3 hb3 => ?_)
  refine po_q rfl rfl ?_
  iterate 3 (refine po_gq rfl (fun hb => by subst hb; exact rfl) ?_)
  refine po_gb rfl (fun hb => by subst hb; exact rfl) (fun b4 hb4 => ?_)
  refine po_and rfl rfl (fun b5 hb5 => ?_)
  refine po_q rfl rfl ?_
  iterate 3 (refine po_gq rfl (fun hb => by subst hb; exact rfl) ?_)
  refine po_gb rfl (fun hb => by subst hb; exact rfl) (fun b6 hb6 => ?_)
  refine po_and rfl rfl (fun b7 hb7 => ?_)
  refine po_q rfl rfl ?_
  refine po_nil ?_
  refine mw_ret ⟨.inr rfl, _, rfl, ?_⟩
  show some (PV.d (.v (.bool b7))) = some (PV.d (.v (.bool (bothB a b key))))
  have : bothB a b key = b7 := by
    rw [hb7, hb5, hb3, hb1, hb2, hb4, hb6]; unfold bothB; rw [Bool.and_assoc, Bool.and_assoc]
  rw [this]

/-- what the reference's Join gives -/
def JnP (T : World → Prop) (hT : Low ngl T) (N : Nat) : Prop := ∀ a b : Sh, a.nodes ≤ N → a.wf → b.wf → a.bulk ≤ 10200 → b.bulk ≤ 10200 → FnO (env T hT) 6 [.ag (shC a), .ag (shC b)] (.ag (shC (joinS N a b)))

theorem kid_fn {N : Nat} (hJ : JnP T hT N) (a b : Sh) (key : List UInt8) (hn : a.nodes ≤ N + 1) (hwa : a.wf) (hwb : b.wf) (hba : a.bulk ≤ 10200) (hbb : b.bulk ≤ 10200) (hka : a.keys.length ≤ a.kids.length) (hkb : b.keys.length ≤ b.kids.length) (hkey : key ∈ a.keys ∨ key ∈ b.keys) :
    FnO (env T hT) 64 [.ag (shC a), .ag (shC b), .d (pS key)] (.ag (shC (jKid (joinS N) a b key))) := by
  have hla : a.keys.length ≤ 4294967295 := by have := (Sh.lens hba).1; omega
  have hlb : b.keys.length ≤ 4294967295 := by have := (Sh.lens hbb).1; omega
  refine fn_of (look_env lk_s_l15Kid) (by show 3 ≤ 50; decide) fun B hB => ?_
  unfold m_s_l15Kid
  refine mw_seq (mw_ops ?_)
  iterate 2 (refine po_box rfl ?_)
  refine po_zero ?_
  refine po_nil ?_
  refine mw_seq (mw_ops ?_)
  iterate 6 (refine po_q rfl rfl ?_)
  refine po_call (key_arg a.keys key) (l11_fn a.keys key hla) ?_
  refine po_call (key_arg b.keys key) (l11_fn b.keys key hlb) ?_
  iterate 2 (refine po_q rfl rfl ?_)
  refine po_nil ?_
  refine mw_seq (mw_block (mw_seq (mw_ops ?_)))
  refine po_q rfl rfl ?_
  refine po_b rfl rfl (fun b1 hb1 => ?_)
  refine po_q rfl rfl ?_
  refine po_gq rfl (fun hb => by subst hb; exact rfl) ?_
  refine po_gb rfl (fun hb => by subst hb; exact rfl) (fun b2 hb2 => ?_)
  refine po_and rfl rfl (fun b3 hb3 => ?_)
  refine po_q rfl rfl ?_
  refine po_nil ?_
  refine mw_cond rfl (fun hc => ?_) (fun hc => ?_)
  · have h12 : b1 = true ∧ b2 = true := by rw [hb3] at hc; simpa using hc
    have h1 : 0 ≤ ixF a.keys key 0 := by have := h12.1; rw [hb1] at this; exact of_decide_eq_true this
    have h2 : 0 ≤ ixF b.keys key 0 := by have := h12.2; rw [hb2] at this; exact of_decide_eq_true this
    obtain ⟨i, hi, hil⟩ := ix_at h1 hka
    obtain ⟨k, hk, hkl⟩ := ix_at h2 hkb
    have hr : jKid (joinS N) a b key = joinS N a.kids[i] b.kids[k] := by unfold jKid; rw [if_pos h1, if_pos h2, kidAt_eq hi hil, kidAt_eq hk hkl]
    refine mw_seq (mw_ops ?_)
    iterate 3 (refine po_q rfl rfl ?_)
    refine po_ix (es := shK a.kids) (e := shC a.kids[i]) rfl rfl rfl ⟨h1, by rw [hi, Int.toNat_natCast]; exact shK_get hil⟩ rfl ?_
    iterate 4 (refine po_q rfl rfl ?_)
    refine po_ix (es := shK b.kids) (e := shC b.kids[k]) rfl rfl rfl ⟨h2, by rw [hk, Int.toNat_natCast]; exact shK_get hkl⟩ rfl ?_
    refine po_q rfl rfl ?_
    refine po_sh (shC_arg2 _ _) (hJ _ _ (Sh.nodes_kid hn i hil) (Sh.wfs_get (Sh.wf_kids hwa) i hil) (Sh.wfs_get (Sh.wf_kids hwb) k hkl) (Nat.le_trans (Sh.bulk_kid i hil) hba) (Nat.le_trans (Sh.bulk_kid k hkl) hbb)) ?_
    intro c0 c1 c2 c3 c4 c5 nt' hx hnt hN
    refine po_store rfl rfl rfl ⟨rfl, Nat.le_of_ble_eq_true rfl⟩ rfl ?_
    refine po_nil ?_
    refine mw_ret ⟨.inr rfl, _, rfl, ?_, hN.nd, fun t ht => List.mem_append.2 (.inl ht), hN.own⟩
    rw [hr]; exact congrArg (fun l => some (PV.ag l)) hx
  · refine mw_seq (mw_ops ?_)
    refine po_q rfl rfl ?_
    refine po_b rfl rfl (fun b4 hb4 => ?_)
    refine po_q rfl rfl ?_
    refine po_nil ?_
    refine mw_cond rfl (fun hc4 => ?_) (fun hc4 => ?_)
    · have h1 : 0 ≤ ixF a.keys key 0 := by rw [hb4] at hc4; exact of_decide_eq_true hc4
      have h2 : ¬ 0 ≤ ixF b.keys key 0 := by
        intro h2
        have e1 : b1 = true := by rw [hb1]; exact decide_eq_true h1
        have e2 : b2 = true := by rw [hb2]; exact decide_eq_true h2
        rw [hb3, e1, e2] at hc; exact absurd hc (by decide)
      obtain ⟨i, hi, hil⟩ := ix_at h1 hka
      have hr : jKid (joinS N) a b key = a.kids[i] := by unfold jKid; rw [if_pos h1, if_neg h2, kidAt_eq hi hil]
      refine mw_seq (mw_ops ?_)
      iterate 3 (refine po_q rfl rfl ?_)
      refine po_ix (es := shK a.kids) (e := shC a.kids[i]) rfl rfl rfl ⟨h1, by rw [hi, Int.toNat_natCast]; exact shK_get hil⟩ rfl ?_
      refine po_q rfl rfl ?_
      refine po_sh (shC_arg _) (copy_fn _ _ (Nat.le_refl _) (Nat.le_trans (Nat.le_trans (Sh.bulk_kid i hil) hba) (by decide))) ?_
      intro c0 c1 c2 c3 c4 c5 nt' hx hnt hN
      refine po_store rfl rfl rfl ⟨rfl, Nat.le_of_ble_eq_true rfl⟩ rfl ?_
      refine po_nil ?_
      refine mw_ret ⟨.inr rfl, _, rfl, ?_, hN.nd, fun t ht => List.mem_append.2 (.inl ht), hN.own⟩
      rw [hr]; exact congrArg (fun l => some (PV.ag l)) hx
    · have h1 : ¬ 0 ≤ ixF a.keys key 0 := by rw [hb4] at hc4; exact of_decide_eq_false hc4
      have h2 : 0 ≤ ixF b.keys key 0 := by
        rcases hkey with h | h
        · exact absurd ((ixF_mem _ _ 0).2 h) h1
        · exact (ixF_mem _ _ 0).2 h
      obtain ⟨k, hk, hkl⟩ := ix_at h2 hkb
      have hr : jKid (joinS N) a b key = b.kids[k] := by unfold jKid; rw [if_neg h1, kidAt_eq hk hkl]
      refine mw_skip ?_
      refine mw_seq (mw_ops ?_)
      iterate 3 (refine po_q rfl rfl ?_)
      refine po_ix (es := shK b.kids) (e := shC b.kids[k]) rfl rfl rfl ⟨h2, by rw [hk, Int.toNat_natCast]; exact shK_get hkl⟩ rfl ?_
      refine po_q rfl rfl ?_
      refine po_sh (shC_arg _) (copy_fn _ _ (Nat.le_refl _) (Nat.le_trans (Nat.le_trans (Sh.bulk_kid k hkl) hbb) (by decide))) ?_
      intro c0 c1 c2 c3 c4 c5 nt' hx hnt hN
      refine po_store rfl rfl rfl ⟨rfl, Nat.le_of_ble_eq_true rfl⟩ rfl ?_
      refine po_nil ?_
      refine mw_ret ⟨.inr rfl, _, rfl, ?_, hN.nd, fun t ht => List.mem_append.2 (.inl ht), hN.own⟩
      rw [hr]; exact congrArg (fun l => some (PV.ag l)) hx
end Go.Proofs.YtpknmldpdoadgaaDoor

/- spec.l15Maps on values without memory. -/
namespace Go.Proofs.YtpknmldpdoadgaaDoor
open Go.RowKit
variable {T : World → Prop} {hT : Low ngl T}

/-- a row that may be appended to -/
def RowN (nt : Nat) (live : List Nat) (t : Nat) (rows : List (List PC)) : Prop := t = 1 ∧ rows = [] ∨ 2 ≤ t ∧ t ∈ live ∧ t < nt
theorem RowN.app {nt t : Nat} {live : List Nat} {rows : List (List PC)} (h : RowN nt live t rows) : t = 1 ∨ t ∈ live := h.elim (fun h => .inl h.1) fun h => .inr h.2.1
def oC (ks : PC) (m : Int) (kids : PC) : List PC := [pI 8, pI 0, pI 0, ks, pI m, kids]
theorem pSr_append (a b : List (List UInt8)) : pSr (a ++ b) = pSr a ++ pSr b := by simp [pSr]
theorem key_arg2 (t : Nat) (ks : List (List UInt8)) (key : List UInt8) : PV.dats [.d (.sl t (pSr ks)), .d (pS key)] = some [.d (pSs ks), .d (pS key)] := congrArg (fun x => some [PV.d (.sl 0 x), PV.d (pS key)]) (pSr_er ks)
theorem RowN.own {nt t : Nat} {live : List Nat} {ks : List (List UInt8)} {m : Int} (h : RowN nt live t (pSr ks)) : OwnL nt live (oC (.sl t (pSr ks)) m (.sl 1 [])) := by
  rcases h with ⟨rfl, h⟩ | ⟨h1, h2, h3⟩
  · rw [h]; exact ⟨rfl, by show ([] : List Nat).Nodup; simp, fun t ht => by simp [oC, toksL, toks_sl1, pI, PC.toks, toksLL] at ht⟩
  · have e : toksL (oC (.sl t (pSr ks)) m (.sl 1 [])) = [t] := by simp [oC, toksL, PC.toks, pI, h1, pSr_tok, toksLL]
    have h0 : t ≠ 0 := by omega
    refine ⟨by simp [oC, ownedL, PC.owned, pI, pSr_own, ownedLL, h0], by rw [e]; simp, fun x hx => ?_⟩
    rw [e, List.mem_singleton] at hx; subst hx; exact ⟨h2, h3⟩

def MpF (a b : Sh) (d : Nat) (j : Nat) : List (Nat × PV) := [(2, .ref 0 0), (3, .ref 1 0), (4, .ref 2 0), (5, .ref 3 0), (6, .d (.sl 4 (pSr (a.keys ++ b.keys)))), (d, .d (pI j))]
def Mp1 (a b : Sh) (m : Nat) (s : St) : Prop := ∃ i tk : Nat, i ≤ a.keys.length ∧ m = a.keys.length - i ∧ has s.tm (MpF a b 7 i) ∧ s.bx = [shC a, shC b, zSh, oC (.sl tk (pSr (jK1 a b i))) 0 (.sl 1 [])] ∧ 2 ≤ s.nt ∧ RowN s.nt s.live tk (pSr (jK1 a b i))
def Mp2 (a b : Sh) (m : Nat) (s : St) : Prop := ∃ i tk : Nat, i ≤ (a.keys ++ b.keys).length ∧ m = (a.keys ++ b.keys).length - i ∧ has s.tm (MpF a b 8 i) ∧ s.bx = [shC a, shC b, zSh, oC (.sl tk (pSr (addK (jKeys1 a b) ((a.keys ++ b.keys).take i)))) (jKeys1 a b).length (.sl 1 [])] ∧ 2 ≤ s.nt ∧ RowN s.nt s.live tk (pSr (addK (jKeys1 a b) ((a.keys ++ b.keys).take i)))
def Mp3 (f : Sh → Sh → Sh) (a b : Sh) (m : Nat) (s : St) : Prop := ∃ (i tk tr : Nat) (rows : List (List PC)), i ≤ (jKeys a b).length ∧ m = (jKeys a b).length - i ∧ has s.tm (MpF a b 9 i) ∧ s.bx = [shC a, shC b, zSh, oC (.sl tk (pSr (jKeys a b))) (jKeys1 a b).length (.sl tr rows)] ∧
  erLL rows = shK (((jKeys a b).take i).map (jKid f a b)) ∧ (tr = 1 ∧ rows = [] ∨ 2 ≤ tr) ∧ 2 ≤ s.nt ∧ OwnL s.nt s.live (oC (.sl tk (pSr (jKeys a b))) (jKeys1 a b).length (.sl tr rows))

set_option maxHeartbeats 1000000 in
theorem maps_fn {N : Nat} (hJ : JnP T hT N) (a b : Sh) (hn : a.nodes ≤ N + 1) (hwa : a.wf) (hwb : b.wf) (hoa : a.ok = true) (hob : b.ok = true) (hka : a.kind = 8) (hkb : b.kind = 8) :
    FnO (env T hT) 45 [.ag (shC a), .ag (shC b)] (.ag (shC (joinMaps (joinS N) a b))) := by
  obtain ⟨hna, hla, hma1, hma2, hla1, hka1⟩ := ok_map hoa hka
  obtain ⟨hnb, hlb, hmb1, hmb2, hlb1, hkb1⟩ := ok_map hob hkb
  have hba := (Sh.ok_bulk hoa).1
  have hbb := (Sh.ok_bulk hob).1
  refine fn_of (look_env lk_s_l15Maps) (by show 2 ≤ 91; decide) fun B hB => ?_
  unfold m_s_l15Maps
  refine mw_seq (mw_ops ?_)
  iterate 2 (refine po_box rfl ?_)
  refine po_zero ?_
  refine po_nil ?_
  refine mw_seq (mw_ops ?_)
  refine po_q rfl rfl ?_
  refine po_zero ?_
  refine po_store rfl rfl rfl ⟨rfl, Nat.le_of_ble_eq_true rfl⟩ rfl ?_
  refine po_nil ?_
  refine mw_seq (mw_ops ?_)
  iterate 4 (refine po_q rfl rfl ?_)
  refine po_lit rfl ?_
  refine po_app (t := 2) (es := []) (ds := pSr a.keys) rfl rfl (.inr (by decide)) (by rw [pSr_len]; simp; omega) (pSr_wid _) (by simp) ?_
  refine po_app (t := 3) (es := [] ++ pSr a.keys) (ds := pSr b.keys) rfl rfl (.inr (by decide)) (by rw [List.nil_append, pSr_len, pSr_len]; omega) (pSr_wid _) (by rw [List.nil_append]; exact pSr_wid _) ?_
  refine po_q rfl rfl ?_
  refine po_nil ?_
  have hall : ([] ++ pSr a.keys) ++ pSr b.keys = pSr (a.keys ++ b.keys) := by rw [List.nil_append, pSr_append]
  refine mw_cut (fun s => ∃ m, Mp1 a b m s ∧ m = 0) ?_ ?_
  · refine mw_seq (mw_ops ?_)
    refine po_q rfl rfl ?_
    refine po_nil ?_
    refine mw_block ?_
    refine mw_while (Mp1 a b) a.keys.length ⟨0, 1, Nat.zero_le _, by simp, ⟨rfl, rfl, rfl, rfl, congrArg (fun l => PV.d (.sl 4 l)) hall, rfl, trivial⟩, by rw [show jK1 a b 0 = [] by simp [jK1]]; rfl, by show 2 ≤ 5; decide, .inl ⟨rfl, by simp [jK1, pSr]⟩⟩ ?_
    rintro m tm bx nt live ⟨i, tk, hi, rfl, ht, hbx, hnt, hR⟩
    obtain ⟨tm0, rfl⟩ := has_ups ht
    simp only at hbx hnt hR; subst hbx
    refine mw_seq (mw_seq (mw_ops ?_))
    iterate 4 (refine po_q rfl rfl ?_)
    refine po_b rfl rfl (fun b1 hb1 => ?_)
    refine po_nil ?_
    have hlen : (pSr a.keys).length = a.keys.length := pSr_len _
    refine mw_cond rfl (fun hc => ?_) (fun hc => ?_)
    · have hlt : i < a.keys.length := by
        subst hb1; have := of_decide_eq_true hc; rw [hlen] at this; omega
      refine mw_skip ?_
      refine mw_seq (mw_block (mw_seq (mw_ops ?_)))
      iterate 5 (refine po_q rfl rfl ?_)
      refine po_ix (es := pSr a.keys) (e := [pS a.keys[i]]) rfl rfl rfl ⟨by omega, by rw [Int.toNat_natCast]; exact pSr_get hlt⟩ rfl ?_
      refine po_q rfl rfl ?_
      refine po_call (shkey_arg a b a.keys[i]) (both_fn a b a.keys[i] (by omega) (by omega)) ?_
      refine po_nil ?_
      have hst := jK1_step (b := b) hlt hna hma1
      refine mw_cond rfl (fun hc2 => ?_) (fun hc2 => ?_)
      · rw [if_pos hc2] at hst
        refine mw_ops ?_
        iterate 5 (refine po_q rfl rfl ?_)
        refine po_ix (es := pSr a.keys) (e := [pS a.keys[i]]) rfl rfl rfl ⟨by omega, by rw [Int.toNat_natCast]; exact pSr_get hlt⟩ rfl ?_
        refine po_q rfl rfl ?_
        refine po_q rfl rfl ?_
        refine po_app (t := tk) (es := pSr (jK1 a b i)) (ds := [[pS a.keys[i]]]) rfl rfl hR.app (by rw [pSr_len]; have := jK1_len a b i; simp; omega) (by simp) (pSr_wid _) ?_
        refine po_q rfl rfl ?_
        refine po_store rfl rfl rfl ⟨rfl, Nat.le_of_ble_eq_true rfl⟩ rfl ?_
        refine po_nil ?_
        refine mw_ops ?_
        iterate 3 (refine po_q rfl rfl ?_)
        refine po_nil ?_
        have hrow : pSr (jK1 a b i) ++ [[pS a.keys[i]]] = pSr (jK1 a b (i + 1)) := by rw [hst, pSr_append]; rfl
        refine ⟨a.keys.length - (i + 1), by omega, i + 1, nt, hlt, rfl, ⟨rfl, rfl, rfl, rfl, rfl, ?_, trivial⟩, ?_, by show 2 ≤ nt + 1; omega, .inr ⟨hnt, List.mem_cons_self, by show nt < nt + 1; omega⟩⟩
        · show PV.d (.v (.int .i64 (IntKind.wrap .i64 ((i : Int) + 1)))) = _
          rw [wrap_lt (by omega) (by omega)]; rfl
        · rw [← hrow]; rfl
      · rw [if_neg (by rw [hc2]; decide)] at hst
        refine mw_skip ?_
        refine mw_ops ?_
        iterate 3 (refine po_q rfl rfl ?_)
        refine po_nil ?_
        refine ⟨a.keys.length - (i + 1), by omega, i + 1, tk, hlt, rfl, ⟨rfl, rfl, rfl, rfl, rfl, ?_, trivial⟩, by rw [hst], hnt, by rw [hst]; exact hR⟩
        · show PV.d (.v (.int .i64 (IntKind.wrap .i64 ((i : Int) + 1)))) = _
          rw [wrap_lt (by omega) (by omega)]; rfl
    · have hge : i = a.keys.length := by
        subst hb1; have := of_decide_eq_false hc; rw [hlen] at this; omega
      refine mw_exit ?_
      exact ⟨0, ⟨i, tk, hi, by omega, ⟨rfl, rfl, rfl, rfl, rfl, rfl, trivial⟩, rfl, hnt, hR⟩, rfl⟩
  rintro tm bx nt live ⟨m, ⟨i, tk, hi, rfl, ht, hbx, hnt, hR⟩, hm⟩
  obtain ⟨tm0, rfl⟩ := has_ups ht
  simp only at hbx hnt hR; subst hbx
  have hie : i = a.keys.length := by omega
  subst hie
  rw [jK1_end] at hR ⊢
  refine mw_seq (mw_ops ?_)
  iterate 4 (refine po_q rfl rfl ?_)
  refine po_store rfl rfl rfl ⟨rfl, Nat.le_of_ble_eq_true rfl⟩ rfl ?_
  refine po_nil ?_
  have hk1 := jKeys1_len a b
  refine mw_cut (fun s => ∃ m, Mp2 a b m s ∧ m = 0) ?_ ?_
  · refine mw_seq (mw_ops ?_)
    refine po_q rfl rfl ?_
    refine po_nil ?_
    refine mw_block ?_
    refine mw_while (Mp2 a b) (a.keys ++ b.keys).length ⟨0, tk, Nat.zero_le _, by simp, ⟨rfl, rfl, rfl, rfl, rfl, rfl, trivial⟩, ?_, hnt, hR⟩ ?_
    · show _ = [shC a, shC b, zSh, oC (.sl tk (pSr (jKeys1 a b))) (jKeys1 a b).length (.sl 1 [])]
      rw [← pSr_len (jKeys1 a b)]; rfl
    clear hR
    rintro m tm bx nt live ⟨i, tk, hi, rfl, ht, hbx, hnt, hR⟩
    obtain ⟨tm0, rfl⟩ := has_ups ht
    simp only at hbx hnt hR; subst hbx
    refine mw_seq (mw_seq (mw_ops ?_))
    iterate 3 (refine po_q rfl rfl ?_)
    refine po_b rfl rfl (fun b1 hb1 => ?_)
    refine po_nil ?_
    have hlen : (pSr (a.keys ++ b.keys)).length = (a.keys ++ b.keys).length := pSr_len _
    have hab : (a.keys ++ b.keys).length ≤ 200 := by rw [List.length_append]; omega
    have hal : (addK (jKeys1 a b) ((a.keys ++ b.keys).take i)).length ≤ 300 := by
      have := addK_len (jKeys1 a b) ((a.keys ++ b.keys).take i)
      rw [List.length_take] at this; omega
    refine mw_cond rfl (fun hc => ?_) (fun hc => ?_)
    · have hlt : i < (a.keys ++ b.keys).length := by
        subst hb1; have := of_decide_eq_true hc; rw [hlen] at this; omega
      have hst := addK_take (acc := jKeys1 a b) hlt
      refine mw_skip ?_
      refine mw_seq (mw_block (mw_seq (mw_ops ?_)))
      iterate 4 (refine po_q rfl rfl ?_)
      refine po_ix (es := pSr (a.keys ++ b.keys)) (e := [pS (a.keys ++ b.keys)[i]]) rfl rfl rfl ⟨by omega, by rw [Int.toNat_natCast]; exact pSr_get hlt⟩ rfl ?_
      refine po_q rfl rfl ?_
      refine po_call (key_arg2 tk _ _) (l11_fn _ (a.keys ++ b.keys)[i] (by omega)) ?_
      refine po_b rfl rfl (fun b2 hb2 => ?_)
      refine po_nil ?_
      refine mw_cond rfl (fun hc2 => ?_) (fun hc2 => ?_)
      · have hnin : ¬ (a.keys ++ b.keys)[i] ∈ addK (jKeys1 a b) ((a.keys ++ b.keys).take i) := by
          rw [← ixF_mem _ _ 0]; rw [hb2] at hc2; have := of_decide_eq_true hc2; omega
        rw [if_neg hnin] at hst
        refine mw_ops ?_
        iterate 4 (refine po_q rfl rfl ?_)
        refine po_ix (es := pSr (a.keys ++ b.keys)) (e := [pS (a.keys ++ b.keys)[i]]) rfl rfl rfl ⟨by omega, by rw [Int.toNat_natCast]; exact pSr_get hlt⟩ rfl ?_
        refine po_q rfl rfl ?_
        refine po_q rfl rfl ?_
        refine po_app (t := tk) (es := pSr (addK (jKeys1 a b) ((a.keys ++ b.keys).take i))) (ds := [[pS (a.keys ++ b.keys)[i]]]) rfl rfl hR.app (by rw [pSr_len]; simp; omega) (by simp) (pSr_wid _) ?_
        refine po_q rfl rfl ?_
        refine po_store rfl rfl rfl ⟨rfl, Nat.le_of_ble_eq_true rfl⟩ rfl ?_
        refine po_nil ?_
        refine mw_ops ?_
        iterate 3 (refine po_q rfl rfl ?_)
        refine po_nil ?_
        have hrow : pSr (addK (jKeys1 a b) ((a.keys ++ b.keys).take i)) ++ [[pS (a.keys ++ b.keys)[i]]] = pSr (addK (jKeys1 a b) ((a.keys ++ b.keys).take (i + 1))) := by rw [hst, pSr_append]; rfl
        refine ⟨(a.keys ++ b.keys).length - (i + 1), by omega, i + 1, nt, hlt, rfl, ⟨rfl, rfl, rfl, rfl, rfl, ?_, trivial⟩, ?_, by show 2 ≤ nt + 1; omega, .inr ⟨hnt, List.mem_cons_self, by show nt < nt + 1; omega⟩⟩
        · show PV.d (.v (.int .i64 (IntKind.wrap .i64 ((i : Int) + 1)))) = _
          rw [wrap_lt (by omega) (by omega)]; rfl
        · rw [← hrow]; rfl
      · have hin : (a.keys ++ b.keys)[i] ∈ addK (jKeys1 a b) ((a.keys ++ b.keys).take i) := by
          rw [← ixF_mem _ _ 0]; rw [hb2] at hc2; have := of_decide_eq_false hc2; omega
        rw [if_pos hin] at hst
        refine mw_skip ?_
        refine mw_ops ?_
        iterate 3 (refine po_q rfl rfl ?_)
        refine po_nil ?_
        refine ⟨(a.keys ++ b.keys).length - (i + 1), by omega, i + 1, tk, hlt, rfl, ⟨rfl, rfl, rfl, rfl, rfl, ?_, trivial⟩, by rw [hst], hnt, by rw [hst]; exact hR⟩
        · show PV.d (.v (.int .i64 (IntKind.wrap .i64 ((i : Int) + 1)))) = _
          rw [wrap_lt (by omega) (by omega)]; rfl
    · have hge : i = (a.keys ++ b.keys).length := by
        subst hb1; have := of_decide_eq_false hc; rw [hlen] at this; omega
      refine mw_exit ?_
      exact ⟨0, ⟨i, tk, hi, by omega, ⟨rfl, rfl, rfl, rfl, rfl, rfl, trivial⟩, rfl, hnt, hR⟩, rfl⟩
  clear hR
  rintro tm bx nt live ⟨m, ⟨i, tk, hi, rfl, ht, hbx, hnt, hR⟩, hm⟩
  obtain ⟨tm0, rfl⟩ := has_ups ht
  simp only at hbx hnt hR; subst hbx
  have hie : i = (a.keys ++ b.keys).length := by omega
  subst hie
  have hjk : addK (jKeys1 a b) ((a.keys ++ b.keys).take (a.keys ++ b.keys).length) = jKeys a b := by rw [List.take_length]; rfl
  rw [hjk] at hR ⊢
  have hjl := jKeys_len a b
  refine mw_cut (fun s => ∃ m, Mp3 (joinS N) a b m s ∧ m = 0) ?_ ?_
  · refine mw_seq (mw_ops ?_)
    refine po_q rfl rfl ?_
    refine po_nil ?_
    refine mw_block ?_
    refine mw_while (Mp3 (joinS N) a b) (jKeys a b).length ⟨0, tk, 1, [], Nat.zero_le _, by simp, ⟨rfl, rfl, rfl, rfl, rfl, rfl, trivial⟩, rfl, rfl, .inl ⟨rfl, rfl⟩, hnt, hR.own⟩ ?_
    clear hR
    rintro m tm bx nt live ⟨i, tk, tr, rows, hi, rfl, ht, hbx, hr, htr, hnt, hO⟩
    obtain ⟨tm0, rfl⟩ := has_ups ht
    simp only at hbx hnt hO; subst hbx
    refine mw_seq (mw_seq (mw_ops ?_))
    iterate 4 (refine po_q rfl rfl ?_)
    refine po_b rfl rfl (fun b1 hb1 => ?_)
    refine po_nil ?_
    have hlen : (pSr (jKeys a b)).length = (jKeys a b).length := pSr_len _
    refine mw_cond rfl (fun hc => ?_) (fun hc => ?_)
    · have hlt : i < (jKeys a b).length := by
        subst hb1; have := of_decide_eq_true hc; rw [hlen] at this; omega
      refine mw_skip ?_
      refine mw_seq (mw_block (mw_ops ?_))
      iterate 7 (refine po_q rfl rfl ?_)
      refine po_ix (es := pSr (jKeys a b)) (e := [pS (jKeys a b)[i]]) rfl rfl rfl ⟨by omega, by rw [Int.toNat_natCast]; exact pSr_get hlt⟩ rfl ?_
      refine po_q rfl rfl ?_
      refine po_sh (shkey_arg a b (jKeys a b)[i]) (kid_fn hJ a b (jKeys a b)[i] hn hwa hwb hba hbb (by omega) (by omega) (jKeys_mem a b _ (List.getElem_mem hlt))) ?_
      intro c0 c1 c2 c3 c4 c5 nt' hx hnt2 hN
      refine po_q rfl rfl ?_
      have hrl := erLL_len hr
      rw [shK_len, List.length_map, List.length_take] at hrl
      have htin : tr = 1 ∨ tr ∈ toksL [c0, c1, c2, c3, c4, c5] ++ live := by
        rcases htr with h | h
        · exact .inl h.1
        · exact .inr (List.mem_append.2 (.inr (hO.mem tr (by simp only [oC, toksL, toks_sl2 h]; simp)).1))
      refine po_app (t := tr) (es := rows) (ds := [[c0, c1, c2, c3, c4, c5]]) rfl rfl htin (by rw [List.length_singleton]; omega) (by simp) (erLL_wid hr (shK_wid _)) ?_
      refine po_q rfl rfl ?_
      refine po_store rfl rfl rfl ⟨rfl, Nat.le_of_ble_eq_true rfl⟩ rfl ?_
      refine po_nil ?_
      refine mw_ops ?_
      iterate 3 (refine po_q rfl rfl ?_)
      refine po_nil ?_
      refine ⟨(jKeys a b).length - (i + 1), by omega, i + 1, tk, nt', rows ++ [[c0, c1, c2, c3, c4, c5]], hlt, rfl, ⟨rfl, rfl, rfl, rfl, rfl, ?_, trivial⟩, rfl, ?_, .inr (by omega), by show 2 ≤ nt' + 1; omega, ?_⟩
      · show PV.d (.v (.int .i64 (IntKind.wrap .i64 ((i : Int) + 1)))) = _
        rw [wrap_lt (by omega) (by omega)]; rfl
      · rw [erLL_append, hr, List.take_succ_eq_append_getElem hlt, List.map_append, shK_eq, shK_eq, List.map_append]
        show _ ++ [erL [c0, c1, c2, c3, c4, c5]] = _ ++ [shC (jKid (joinS N) a b (jKeys a b)[i])]
        rw [hx]
      · rcases htr with ⟨rfl, rfl⟩ | h2
        · exact hO.push1 (a := [_, _, _, _, _]) (b := []) (by omega) hN.own hN.nd hN.mem (by omega)
        · exact hO.push (a := [_, _, _, _, _]) (b := []) h2 (by omega) hN.own hN.nd hN.mem (by omega)
    · have hge : i = (jKeys a b).length := by
        subst hb1; have := of_decide_eq_false hc; rw [hlen] at this; omega
      refine mw_exit ?_
      exact ⟨0, ⟨i, tk, tr, rows, hi, by omega, ⟨rfl, rfl, rfl, rfl, rfl, rfl, trivial⟩, rfl, hr, htr, hnt, hO⟩, rfl⟩
  clear hR
  rintro tm bx nt live ⟨m, ⟨i, tk, tr, rows, hi, rfl, ht, hbx, hr, htr, hnt, hO⟩, hm⟩
  obtain ⟨tm0, rfl⟩ := has_ups ht
  simp only at hbx hnt hO; subst hbx
  have hie : i = (jKeys a b).length := by omega
  subst hie
  rw [List.take_length] at hr
  refine mw_seq (mw_ops ?_)
  refine po_q rfl rfl ?_
  refine po_store rfl rfl rfl ⟨rfl, Nat.le_of_ble_eq_true rfl⟩ rfl ?_
  refine po_nil ?_
  refine mw_ret ⟨.inr rfl, _, rfl, ?_, hO.nd, fun t ht => (hO.mem t ht).1, hO.own⟩
  show some (PV.ag (erL (oC (.sl tk (pSr (jKeys a b))) (jKeys1 a b).length (.sl tr rows)))) = some (PV.ag (shC (joinMaps (joinS N) a b)))
  refine congrArg (fun l => some (PV.ag l)) ?_
  simp only [oC, erL, PC.er, pSr_er, hr]
  rfl
end Go.Proofs.YtpknmldpdoadgaaDoor

/- When a shape is right but for its kids: the program's isForm. -/
namespace Go.Proofs.YtpknmldpdoadgaaDoor
open Go.RowKit
open Go.Lib (validD)

set_option maxHeartbeats 2000000 in
set_option maxRecDepth 10000 in
theorem isForm_any (x : Sh) (cs : List Value) (w : World) (h : Rd w x.d cs) (hwf : x.wf) (hbk : x.bulk ≤ 4294967295) (hT : Tabs w) :
    Calls Tryd.prog 65 #[.agg cs.toArray] w fun e w' => e = .returned (.bool x.self) ∧ Below w.heap.size w w' := by
  have HF := Lib.hid (fun w1 (hb : Below w.heap.size w w1) => isFields_any x cs w1 (h.below hb) hwf hbk (hT.below hb))
  obtain ⟨k, l, hi, ks, m, kids, v1, v2, rfl, rfl, hk, hkids⟩ := Sh.lay h
  obtain ⟨a1, c1, rfl, _⟩ := hk.strs
  obtain ⟨a2, c2, rfl⟩ := Rd.sl_form hkids
  rw [Sh.ds_map, List.length_map]
  simp only [Sh.ds_map, List.length_map] at HF
  have hA := (Below.refl w.heap.size w).alloc (Nat.le_refl _) (.cells #[.int .i64 k, .int .i64 l, .int .i64 hi, .slice a1 ks.length c1, .int .i64 m, .slice a2 kids.length c2] 29)
  clear hk hkids h hwf hbk hT
  obtain ⟨ok, hok⟩ : ∃ ok, Sh.self (.mk k l hi ks m kids) = ok := ⟨_, rfl⟩
  rw [hok]
  have HOK := Lib.hid hok; clear hok
  by_cases hr : 0 ≤ k ∧ k ≤ 9
  · have r1 : inR k 0 9 = true := inR_yes hr
    by_cases k8 : k = 8
    · subst k8
      have hb : hasB 8 = false := rfl
      by_cases hl : l = 0
      · subst hl
        by_cases hhi : hi = 0
        · subst hhi
          have H : Hid (ok = Sh.fields ks m kids.length) := by show _ = _; rw [← HOK.out]; simp [Sh.self]
          clear HOK hA
          go_enter Tryd.func65, Tryd.ntmps65
          go_wp2_with (first | (go_at_call 83; refine (within_any _ _ _ _).mono ?_; rintro e w1 ⟨rfl, rfl⟩) | (go_at_call 49; refine (hasBounds_any _ _).mono ?_; rintro e w1 ⟨rfl, rfl⟩) | (go_at_call 84; refine (HF.out _ ((Below.refl _ _).alloc (Nat.le_refl _) _)).mono ?_; rintro e w1 ⟨rfl, hb1⟩))
          go_ret
          exact ⟨by rw [H.out]; rfl, below2 ((Below.refl _ _).alloc (Nat.le_refl _) _) hb1 (Nat.le_refl _)⟩
        · have ghi : (hi != 0) = true := by simpa using hhi
          have H : Hid (ok = false) := by show _ = _; rw [← HOK.out]; simp [Sh.self, hhi]
          clear HOK
          go_enter Tryd.func65, Tryd.ntmps65
          go_wp2_with (first | (go_at_call 83; refine (within_any _ _ _ _).mono ?_; rintro e w1 ⟨rfl, rfl⟩) | (go_at_call 49; refine (hasBounds_any _ _).mono ?_; rintro e w1 ⟨rfl, rfl⟩))
          go_ret
          exact ⟨by rw [H.out]; rfl, hA⟩
      · have gl : (l != 0) = true := by simpa using hl
        have H : Hid (ok = false) := by show _ = _; rw [← HOK.out]; simp [Sh.self, hl]
        clear HOK
        go_enter Tryd.func65, Tryd.ntmps65
        go_wp2_with (first | (go_at_call 83; refine (within_any _ _ _ _).mono ?_; rintro e w1 ⟨rfl, rfl⟩) | (go_at_call 49; refine (hasBounds_any _ _).mono ?_; rintro e w1 ⟨rfl, rfl⟩))
        go_ret
        exact ⟨by rw [H.out]; rfl, hA⟩
    by_cases k7 : k = 7
    · subst k7
      have hb : hasB 7 = true := rfl
      by_cases hks : ks = []
      · subst hks
        by_cases hm : m = 0
        · subst hm
          have H : Hid (ok = decide (kids.length = 1)) := by show _ = _; rw [← HOK.out]; simp [Sh.self]
          clear HOK
          go_enter Tryd.func65, Tryd.ntmps65
          go_wp2_with (first | (go_at_call 83; refine (within_any _ _ _ _).mono ?_; rintro e w1 ⟨rfl, rfl⟩) | (go_at_call 49; refine (hasBounds_any _ _).mono ?_; rintro e w1 ⟨rfl, rfl⟩))
          go_ret
          exact ⟨by rw [H.out]; exact ret_bool (by rw [Bool.eq_iff_iff]; simp <;> omega), hA⟩
        · have gm : (m != 0) = true := by simpa using hm
          have H : Hid (ok = false) := by show _ = _; rw [← HOK.out]; simp [Sh.self, hm]
          clear HOK
          go_enter Tryd.func65, Tryd.ntmps65
          go_wp2_with (first | (go_at_call 83; refine (within_any _ _ _ _).mono ?_; rintro e w1 ⟨rfl, rfl⟩) | (go_at_call 49; refine (hasBounds_any _ _).mono ?_; rintro e w1 ⟨rfl, rfl⟩))
          go_ret
          exact ⟨by rw [H.out]; rfl, hA⟩
      · have gks : (0 : Int) < ks.length := by have := List.length_pos_iff.2 hks; omega
        have H : Hid (ok = false) := by show _ = _; rw [← HOK.out]; simp [Sh.self, hks]
        clear HOK
        go_enter Tryd.func65, Tryd.ntmps65
        go_wp2_with (first | (go_at_call 83; refine (within_any _ _ _ _).mono ?_; rintro e w1 ⟨rfl, rfl⟩) | (go_at_call 49; refine (hasBounds_any _ _).mono ?_; rintro e w1 ⟨rfl, rfl⟩))
        go_ret
        exact ⟨by rw [H.out]; rfl, hA⟩
    by_cases k9 : k = 9
    · subst k9
      have hb : hasB 9 = false := rfl
      by_cases hl : l = 0
      · subst hl
        by_cases hhi : hi = 0
        · subst hhi
          by_cases hks : ks = []
          · subst hks
            by_cases hm : m = 0
            · subst hm
              have H : Hid (ok = decide (2 ≤ kids.length)) := by show _ = _; rw [← HOK.out]; simp [Sh.self]
              clear HOK
              go_enter Tryd.func65, Tryd.ntmps65
              go_wp2_with (first | (go_at_call 83; refine (within_any _ _ _ _).mono ?_; rintro e w1 ⟨rfl, rfl⟩) | (go_at_call 49; refine (hasBounds_any _ _).mono ?_; rintro e w1 ⟨rfl, rfl⟩))
              go_ret
              exact ⟨by rw [H.out]; exact ret_bool (by rw [Bool.eq_iff_iff]; simp <;> omega), hA⟩
            · have gm : (m != 0) = true := by simpa using hm
              have H : Hid (ok = false) := by show _ = _; rw [← HOK.out]; simp [Sh.self, hm]
              clear HOK
              go_enter Tryd.func65, Tryd.ntmps65
              go_wp2_with (first | (go_at_call 83; refine (within_any _ _ _ _).mono ?_; rintro e w1 ⟨rfl, rfl⟩) | (go_at_call 49; refine (hasBounds_any _ _).mono ?_; rintro e w1 ⟨rfl, rfl⟩))
              go_ret
              exact ⟨by rw [H.out]; rfl, hA⟩
          · have gks : (0 : Int) < ks.length := by have := List.length_pos_iff.2 hks; omega
            have H : Hid (ok = false) := by show _ = _; rw [← HOK.out]; simp [Sh.self, hks]
            clear HOK
            go_enter Tryd.func65, Tryd.ntmps65
            go_wp2_with (first | (go_at_call 83; refine (within_any _ _ _ _).mono ?_; rintro e w1 ⟨rfl, rfl⟩) | (go_at_call 49; refine (hasBounds_any _ _).mono ?_; rintro e w1 ⟨rfl, rfl⟩))
            go_ret
            exact ⟨by rw [H.out]; rfl, hA⟩
        · have ghi : (hi != 0) = true := by simpa using hhi
          have H : Hid (ok = false) := by show _ = _; rw [← HOK.out]; simp [Sh.self, hhi]
          clear HOK
          go_enter Tryd.func65, Tryd.ntmps65
          go_wp2_with (first | (go_at_call 83; refine (within_any _ _ _ _).mono ?_; rintro e w1 ⟨rfl, rfl⟩) | (go_at_call 49; refine (hasBounds_any _ _).mono ?_; rintro e w1 ⟨rfl, rfl⟩))
          go_ret
          exact ⟨by rw [H.out]; rfl, hA⟩
      · have gl : (l != 0) = true := by simpa using hl
        have H : Hid (ok = false) := by show _ = _; rw [← HOK.out]; simp [Sh.self, hl]
        clear HOK
        go_enter Tryd.func65, Tryd.ntmps65
        go_wp2_with (first | (go_at_call 83; refine (within_any _ _ _ _).mono ?_; rintro e w1 ⟨rfl, rfl⟩) | (go_at_call 49; refine (hasBounds_any _ _).mono ?_; rintro e w1 ⟨rfl, rfl⟩))
        go_ret
        exact ⟨by rw [H.out]; rfl, hA⟩
    have B8 : (k == 8) = false := by simpa using k8
    have B7 : (k == 7) = false := by simpa using k7
    have B9 : (k == 9) = false := by simpa using k9
    by_cases kb : k = 3 ∨ k = 5 ∨ k = 6
    · have hb : hasB k = true := by rcases kb with rfl | rfl | rfl <;> rfl
      have K7 := Lib.hid k7; have K8 := Lib.hid k8; have K9 := Lib.hid k9; have KB := Lib.hid kb; clear k7 k8 k9 kb hr
      by_cases hks : ks = []
      · subst hks
        by_cases hm : m = 0
        · subst hm
          have H : Hid (ok = decide (kids = [])) := by show _ = _; rw [← HOK.out]; simp [Sh.self, K8.out, KB.out]
          clear HOK
          go_enter Tryd.func65, Tryd.ntmps65
          go_wp2_with (first | (go_at_call 83; refine (within_any _ _ _ _).mono ?_; rintro e w1 ⟨rfl, rfl⟩) | (go_at_call 49; refine (hasBounds_any _ _).mono ?_; rintro e w1 ⟨rfl, rfl⟩))
          go_ret
          exact ⟨by rw [H.out]; exact ret_bool (by rw [Bool.eq_iff_iff]; simp), hA⟩
        · have gm : (m != 0) = true := by simpa using hm
          have H : Hid (ok = false) := by show _ = _; rw [← HOK.out]; simp [Sh.self, hm, K8.out, KB.out]
          clear HOK
          go_enter Tryd.func65, Tryd.ntmps65
          go_wp2_with (first | (go_at_call 83; refine (within_any _ _ _ _).mono ?_; rintro e w1 ⟨rfl, rfl⟩) | (go_at_call 49; refine (hasBounds_any _ _).mono ?_; rintro e w1 ⟨rfl, rfl⟩))
          go_ret
          exact ⟨by rw [H.out]; rfl, hA⟩
      · have gks : (0 : Int) < ks.length := by have := List.length_pos_iff.2 hks; omega
        have H : Hid (ok = false) := by show _ = _; rw [← HOK.out]; simp [Sh.self, hks, K8.out, KB.out]
        clear HOK
        go_enter Tryd.func65, Tryd.ntmps65
        go_wp2_with (first | (go_at_call 83; refine (within_any _ _ _ _).mono ?_; rintro e w1 ⟨rfl, rfl⟩) | (go_at_call 49; refine (hasBounds_any _ _).mono ?_; rintro e w1 ⟨rfl, rfl⟩))
        go_ret
        exact ⟨by rw [H.out]; rfl, hA⟩
    · have hb : hasB k = false := by simp only [not_or] at kb; simp [hasB, kb, k7]
      have ka : k = 0 ∨ k = 1 ∨ k = 2 ∨ k = 4 := by omega
      have K7 := Lib.hid k7; have K8 := Lib.hid k8; have K9 := Lib.hid k9; have KB := Lib.hid kb; have KA := Lib.hid ka; clear k7 k8 k9 kb ka hr
      by_cases hl : l = 0
      · subst hl
        by_cases hhi : hi = 0
        · subst hhi
          by_cases hks : ks = []
          · subst hks
            by_cases hm : m = 0
            · subst hm
              have H : Hid (ok = decide (kids = [])) := by show _ = _; rw [← HOK.out]; simp [Sh.self, K7.out, K8.out, K9.out, KB.out, KA.out]
              clear HOK
              go_enter Tryd.func65, Tryd.ntmps65
              go_wp2_with (first | (go_at_call 83; refine (within_any _ _ _ _).mono ?_; rintro e w1 ⟨rfl, rfl⟩) | (go_at_call 49; refine (hasBounds_any _ _).mono ?_; rintro e w1 ⟨rfl, rfl⟩))
              go_ret
              exact ⟨by rw [H.out]; exact ret_bool (by rw [Bool.eq_iff_iff]; simp), hA⟩
            · have gm : (m != 0) = true := by simpa using hm
              have H : Hid (ok = false) := by show _ = _; rw [← HOK.out]; simp [Sh.self, hm, K7.out, K8.out, K9.out, KB.out, KA.out]
              clear HOK
              go_enter Tryd.func65, Tryd.ntmps65
              go_wp2_with (first | (go_at_call 83; refine (within_any _ _ _ _).mono ?_; rintro e w1 ⟨rfl, rfl⟩) | (go_at_call 49; refine (hasBounds_any _ _).mono ?_; rintro e w1 ⟨rfl, rfl⟩))
              go_ret
              exact ⟨by rw [H.out]; rfl, hA⟩
          · have gks : (0 : Int) < ks.length := by have := List.length_pos_iff.2 hks; omega
            have H : Hid (ok = false) := by show _ = _; rw [← HOK.out]; simp [Sh.self, hks, K7.out, K8.out, K9.out, KB.out, KA.out]
            clear HOK
            go_enter Tryd.func65, Tryd.ntmps65
            go_wp2_with (first | (go_at_call 83; refine (within_any _ _ _ _).mono ?_; rintro e w1 ⟨rfl, rfl⟩) | (go_at_call 49; refine (hasBounds_any _ _).mono ?_; rintro e w1 ⟨rfl, rfl⟩))
            go_ret
            exact ⟨by rw [H.out]; rfl, hA⟩
        · have ghi : (hi != 0) = true := by simpa using hhi
          have H : Hid (ok = false) := by show _ = _; rw [← HOK.out]; simp [Sh.self, hhi, K7.out, K8.out, K9.out, KB.out, KA.out]
          clear HOK
          go_enter Tryd.func65, Tryd.ntmps65
          go_wp2_with (first | (go_at_call 83; refine (within_any _ _ _ _).mono ?_; rintro e w1 ⟨rfl, rfl⟩) | (go_at_call 49; refine (hasBounds_any _ _).mono ?_; rintro e w1 ⟨rfl, rfl⟩))
          go_ret
          exact ⟨by rw [H.out]; rfl, hA⟩
      · have gl : (l != 0) = true := by simpa using hl
        have H : Hid (ok = false) := by show _ = _; rw [← HOK.out]; simp [Sh.self, hl, K7.out, K8.out, K9.out, KB.out, KA.out]
        clear HOK
        go_enter Tryd.func65, Tryd.ntmps65
        go_wp2_with (first | (go_at_call 83; refine (within_any _ _ _ _).mono ?_; rintro e w1 ⟨rfl, rfl⟩) | (go_at_call 49; refine (hasBounds_any _ _).mono ?_; rintro e w1 ⟨rfl, rfl⟩))
        go_ret
        exact ⟨by rw [H.out]; rfl, hA⟩
  · have r1 : inR k 0 9 = false := inR_no hr
    have H : Hid (ok = false) := by
      show _ = _; rw [← HOK.out]; simp only [Sh.self]
      rw [if_neg (by omega), if_neg (by omega), if_neg (by omega), if_neg (by omega), if_neg (by omega)]
    clear hr
    go_enter Tryd.func65, Tryd.ntmps65
    go_wp2_with (go_at_call 83; refine (within_any _ _ _ _).mono ?_; rintro e w1 ⟨rfl, rfl⟩)
    go_ret
    exact ⟨by rw [H.out]; rfl, hA⟩
end Go.Proofs.YtpknmldpdoadgaaDoor

/- Boxes of one integer, and the two tables of UTF-8, over worlds in which some blocks may be written. -/
namespace Go.Proofs.YtpknmldpdoadgaaDoor
open Go.RowKit

def intBox (w : World) (g : Nat) (n : Int) : Prop := w.heap[g]? = some (.cells #[.int .i64 n] 3 (0, 0))
theorem intBox.cell {w : World} {g : Nat} {n : Int} (h : intBox w g n) : w.cell? ⟨g, 0, none⟩ = some (.int .i64 n) := cell_of_one h
theorem intBox.free {w : World} {g : Nat} {n : Int} (h : intBox w g n) : w.frozen? ⟨g, 0, none⟩ = false := free_of_one h
theorem intBox.lt {w : World} {g : Nat} {n : Int} (h : intBox w g n) : g < w.heap.size := lt_of_block h
theorem intBox.below {w w' : World} {g : Nat} {n : Int} (h : intBox w g n) (hb : Below w.heap.size w w') : intBox w' g n := (hb.block g h.lt).trans h
theorem intBox.keep {S : Nat → Prop} {w w' : World} {g : Nat} {n : Int} (h : intBox w g n) (hk : Keep S w w') (hs : ¬ S g) : intBox w' g n := (hk.block g h.lt hs).trans h
/-- the program's two tables lie below N -/
def GlobN (N : Nat) : Prop := 0 < N ∧ 1 < N
theorem Tabs.keep {S : Nat → Prop} {w w' : World} {N : Nat} (h : Tabs w) (hg : GlobN N) (hk : Keep S w w') (hN : N ≤ w.heap.size) (hs : ∀ k, k < N → ¬ S k) : Tabs w' := h.below' (hk.below hN hs) hg.1 hg.2
end Go.Proofs.YtpknmldpdoadgaaDoor

/- When a shape is right: the program's isShape and ShapeOk. -/
namespace Go.Proofs.YtpknmldpdoadgaaDoor
open Go.RowKit
open Go.Lib (validD)

def shGood (deep : Nat) (L : Int) (x : Sh) : Bool := Sh.right (8 - deep) x && decide ((x.nodes : Int) ≤ L)
def shGoods (deep : Nat) (L : Int) (xs : List Sh) : Bool := Sh.rights (8 - deep) xs && decide ((Sh.nodess xs : Int) ≤ L)

def IsA (n : Nat) : Prop := ∀ (x : Sh) (cs : List Value) (deep N g : Nat) (L : Int) (w : World), x.nodes ≤ n → RdN N w x.d cs → N ≤ g → intBox w g L → x.wf → x.bulk ≤ 4294967295 → Tabs w → GlobN N → deep ≤ 1000000 → 0 ≤ L ∧ L ≤ 1000 →
  Calls Tryd.prog 46 #[.agg cs.toArray, .int .i64 deep, .pointer (some ⟨g, 0, none⟩)] w fun e w' => e = .returned (.bool (shGood deep L x)) ∧ (∃ L' : Int, intBox w' g L' ∧ (shGood deep L x = true → L' = L - x.nodes)) ∧ Keep (· = g) w w'

theorem shGood_no1 {deep : Nat} {L : Int} {x : Sh} (h : L - 1 < 0) : shGood deep L x = false := by
  have := x.nodes_pos; unfold shGood; rw [decide_eq_false (by omega), Bool.and_false]
theorem shGood_no2 {deep : Nat} {L : Int} {x : Sh} (h : (8 : Int) < deep) : shGood deep L x = false := by
  obtain ⟨k, l, hi, ks, m, kids⟩ := x
  unfold shGood; simp only [Sh.right]; rw [decide_eq_false (show ¬ (0 : Int) ≤ 8 - deep by omega)]; simp
theorem Sh.nodess_ge : ∀ xs : List Sh, xs.length ≤ Sh.nodess xs
  | [] => by simp
  | x :: xs => by have := x.nodes_pos; have := Sh.nodess_ge xs; simp only [Sh.nodess, List.length_cons]; omega
theorem shGood_no3 {deep : Nat} {L : Int} {k l hi m : Int} {ks : List (List UInt8)} {kids : List Sh} (h : L - 1 < kids.length) : shGood deep L (.mk k l hi ks m kids) = false := by
  have := Sh.nodess_ge kids; unfold shGood; rw [decide_eq_false (by simp only [Sh.nodes]; omega), Bool.and_false]
theorem shGood_no5 {deep : Nat} {L : Int} {x : Sh} (h : x.self = false) : shGood deep L x = false := by
  obtain ⟨k, l, hi, ks, m, kids⟩ := x
  unfold shGood; simp only [Sh.right]; rw [h]; simp
theorem Sh.self_keys {k l hi m : Int} {ks : List (List UInt8)} {kids : List Sh} (h : Sh.self (.mk k l hi ks m kids) = true) : ks.length ≤ kids.length := by
  simp only [Sh.self] at h
  split at h
  · simp only [Sh.fields, Bool.and_eq_true, decide_eq_true_eq] at h; omega
  split at h
  · simp only [Bool.and_eq_true, decide_eq_true_eq] at h; simp [h]
  split at h
  · simp only [Bool.and_eq_true, decide_eq_true_eq] at h; simp [h]
  split at h
  · simp only [Bool.and_eq_true, decide_eq_true_eq] at h; simp [h]
  split at h
  · simp only [Bool.and_eq_true, decide_eq_true_eq] at h; simp [h]
  · cases h
theorem shGood_no4 {deep : Nat} {L : Int} {k l hi m : Int} {ks : List (List UInt8)} {kids : List Sh} (h : L - 1 < ks.length) : shGood deep L (.mk k l hi ks m kids) = false := by
  cases ho : Sh.self (.mk k l hi ks m kids) with
  | false => exact shGood_no5 ho
  | true => have := Sh.self_keys ho; exact shGood_no3 (by omega)
theorem shGood_yes {deep : Nat} {L : Int} {k l hi m : Int} {ks : List (List UInt8)} {kids : List Sh} (h2 : ¬ (8 : Int) < deep) (ho : Sh.self (.mk k l hi ks m kids) = true) :
    shGood deep L (.mk k l hi ks m kids) = shGoods (deep + 1) (L - 1) kids := by
  unfold shGood shGoods; simp only [Sh.right, Sh.nodes]
  rw [ho, decide_eq_true (show (0 : Int) ≤ 8 - deep by omega), show (8 : Int) - deep - 1 = 8 - (deep + 1 : Nat) by omega, Bool.and_true, Bool.and_true]
  congr 1; exact decide_eq_decide.2 (by omega)

def IsC (n : Nat) : Prop := ∀ (xs : List Sh) (va : Value) (deep N g bd bl : Nat) (L : Int) (w : World), Sh.nodess xs ≤ n → RdN N w (.sl 6 (Sh.ds xs)) [va] → N ≤ g → intBox w g L → intBox w bd deep → bd ≠ g → w.cell? ⟨bl, 0, none⟩ = some (.pointer (some ⟨g, 0, none⟩)) → bl ≠ g →
    Sh.wfs xs → xs.length + Sh.bulks xs ≤ 4294967295 → Tabs w → GlobN N → deep ≤ 1000 → 0 ≤ L ∧ L ≤ 1000 →
  Calls Tryd.prog 66 #[va, .func (.func 67) #[] #[.pointer (some ⟨bd, 0, none⟩), .pointer (some ⟨bl, 0, none⟩)]] w fun e w' => e = .returned (.bool (!shGoods (deep + 1) L xs)) ∧ (∃ L' : Int, intBox w' g L' ∧ (shGoods (deep + 1) L xs = true → L' = L - Sh.nodess xs)) ∧ Keep (· = g) w w'

set_option maxHeartbeats 2000000 in
set_option maxRecDepth 10000 in
theorem IsA_of {n : Nat} (hC : IsC n) : IsA (n + 1) := by
  intro x cs deep N g L w hn h hNg hbox hwf hbk hT hG hdeep hL
  obtain ⟨k, l, hi, ks, m, kids, v1, v2, hx, rfl, hk, hkids⟩ := Sh.layS h
  subst hx
  have hnk : Sh.nodess kids ≤ n := by simp only [Sh.nodes] at hn; omega
  obtain ⟨hL1, hL2⟩ := hL
  obtain ⟨M, rfl⟩ : ∃ M, L = M + 1 := ⟨L - 1, by omega⟩
  have hglt := hbox.lt
  obtain ⟨a1, c1, rfl⟩ := Rd.sl_form (Rd.of hk)
  obtain ⟨a2, c2, rfl⟩ := Rd.sl_form (Rd.of hkids)
  simp only [Sh.ds_map, List.length_map] at h hk hkids ⊢
  rw [← Sh.ds_map] at hkids
  have hfree := hbox.free
  have hcell := hbox.cell
  obtain ⟨W0, hW0⟩ : ∃ W0, W0 = ((((w.setCell ⟨g, 0, none⟩ (.int .i64 M)).alloc (.cells #[.int .i64 k, .int .i64 l, .int .i64 hi, .slice a1 ks.length c1, .int .i64 m, .slice a2 kids.length c2] 29)).alloc (.cells #[.int .i64 deep] 3)).alloc (.cells #[.pointer (some ⟨g, 0, none⟩)] 64)) := ⟨_, rfl⟩
  have HW := Lib.hid hW0
  have hK0 : Keep (· = g) w W0 := by rw [hW0]; exact (((Keep.setCell (S := (· = g)) (p := ⟨g, 0, none⟩) (Keep.refl _ _) (.inl rfl) _).alloc _).alloc _).alloc _
  have hb0 : intBox W0 g M := by
    rw [hW0]
    have : intBox (w.setCell ⟨g, 0, none⟩ (.int .i64 M)) g M := one_setCell hbox
    exact ((this.below ((Below.refl _ _).alloc (Nat.le_refl _) _)).below ((Below.refl _ _).alloc (Nat.le_refl _) _)).below ((Below.refl _ _).alloc (Nat.le_refl _) _)
  have hbd0 : intBox W0 (w.heap.size + 1) deep := by
    rw [hW0]; unfold intBox; rw [Below.heap_alloc _ _ _ (by simp [World.setCell])]
    have := heap_alloc_new ((w.setCell ⟨g, 0, none⟩ (.int .i64 M)).alloc (.cells #[.int .i64 k, .int .i64 l, .int .i64 hi, .slice a1 ks.length c1, .int .i64 m, .slice a2 kids.length c2] 29)) (.cells #[.int .i64 deep] 3)
    simpa [World.setCell] using this
  have hng : ∀ k, k < N → ¬ k = g := by intro k hk e; omega
  have hN : N ≤ w.heap.size := by omega
  have hss : (w.setCell ⟨g, 0, none⟩ (.int .i64 M)).heap.size = w.heap.size := by simp [World.setCell]
  have hsz : W0.heap.size = w.heap.size + 3 := by rw [hW0]; simp [hss]
  have s1 : g < w.heap.size + 1 := by omega
  have s2 : g < w.heap.size + 1 + 1 := by omega
  have s3 : g < w.heap.size + 1 + 1 + 1 := by omega
  have q1 : ¬ g = w.heap.size := by omega
  have q2 : ¬ g = w.heap.size + 1 := by omega
  have q3 : ¬ g = w.heap.size + 1 + 1 := by omega
  have KB : Hid (∀ W, Below W0.heap.size W0 W → W.cell? ⟨w.heap.size, 0, none⟩ = some (.int .i64 k) ∧ W.cell? ⟨w.heap.size, 1, none⟩ = some (.int .i64 l) ∧ W.cell? ⟨w.heap.size, 2, none⟩ = some (.int .i64 hi) ∧ W.cell? ⟨w.heap.size, 3, none⟩ = some (.slice a1 ks.length c1) ∧ W.cell? ⟨w.heap.size, 4, none⟩ = some (.int .i64 m) ∧ W.cell? ⟨w.heap.size, 5, none⟩ = some (.slice a2 kids.length c2)
      ∧ W.cell? ⟨w.heap.size + 1, 0, none⟩ = some (.int .i64 deep) ∧ W.cell? ⟨w.heap.size + 1 + 1, 0, none⟩ = some (.pointer (some ⟨g, 0, none⟩)) ∧ W.cell? ⟨g, 0, none⟩ = some (.int .i64 M)) := by
    intro W hb
    obtain ⟨hc, _⟩ := bcell hb
    have z1 : w.heap.size < W0.heap.size := by omega
    have z2 : w.heap.size + 1 < W0.heap.size := by omega
    have z3 : w.heap.size + 1 + 1 < W0.heap.size := by omega
    have z4 : g < W0.heap.size := by omega
    simp only [hc _ _ z1, hc _ _ z2, hc _ _ z3, hc _ _ z4, hb0.cell]
    subst hW0
    simp [go_sem, hss]
  have hT0 := Lib.hid (hT.keep hG hK0 hN hng)
  have HR := Lib.hid (show ∀ W, Below W0.heap.size W0 W → RdN N W (Sh.d (.mk k l hi ks m kids)) [.int .i64 k, .int .i64 l, .int .i64 hi, .slice a1 ks.length c1, .int .i64 m, .slice a2 kids.length c2] from fun W hb => (h.keep hK0 hN hng).below (hb.mono (by omega)))
  have HRk := Lib.hid (show ∀ W, Below W0.heap.size W0 W → RdN N W (.sl 6 (Sh.ds kids)) [.slice a2 kids.length c2] from fun W hb => (RdN.keep hkids hK0 hN hng).below (hb.mono (by omega)))
  have HF := Lib.hid (fun W (hb : Below W0.heap.size W0 W) => isForm_any _ _ W (HR.out W hb).rd hwf hbk (hT0.out.below hb))
  clear h hk hkids hT hbox hW0 hng hss q1 q2 q3
  by_cases qc1 : M < 0
  · have dqc1 := decide_eq_true qc1
    have H := Lib.hid (shGood_no1 (deep := deep) (L := M + 1) (x := .mk k l hi ks m kids) (by omega))
    go_enter Tryd.func46, Tryd.ntmps46
    go_wp2
    rw [← HW.out]
    have hB := Below.refl W0.heap.size W0
    obtain ⟨p0, p1, p2, p3, p4, p5, p6, p7, p8⟩ := KB.out _ hB
    go_quiet (fail)
    go_wp2
    go_ret
    exact ⟨by rw [H.out]; rfl, ⟨M, hb0.below (by first | exact hB | exact hB.drew | exact below_drewN hB _), fun h => by rw [H.out] at h; cases h⟩, hK0.then (by first | exact hB | exact hB.drew | exact below_drewN hB _)⟩
  have dqc1 := decide_eq_false qc1
  by_cases qc2 : (8 : Int) < deep
  · have dqc2 := decide_eq_true qc2
    have H := Lib.hid (shGood_no2 (L := M + 1) (x := .mk k l hi ks m kids) qc2)
    go_enter Tryd.func46, Tryd.ntmps46
    go_wp2
    rw [← HW.out]
    have hB := Below.refl W0.heap.size W0
    obtain ⟨p0, p1, p2, p3, p4, p5, p6, p7, p8⟩ := KB.out _ hB
    go_quiet (fail)
    go_wp2
    go_ret
    exact ⟨by rw [H.out]; rfl, ⟨M, hb0.below (by first | exact hB | exact hB.drew | exact below_drewN hB _), fun h => by rw [H.out] at h; cases h⟩, hK0.then (by first | exact hB | exact hB.drew | exact below_drewN hB _)⟩
  have dqc2 := decide_eq_false qc2
  by_cases qc3 : M < kids.length
  · have dqc3 := decide_eq_true qc3
    have H := Lib.hid (shGood_no3 (deep := deep) (L := M + 1) (k := k) (l := l) (hi := hi) (m := m) (ks := ks) (kids := kids) (by omega))
    go_enter Tryd.func46, Tryd.ntmps46
    go_wp2
    rw [← HW.out]
    have hB := Below.refl W0.heap.size W0
    obtain ⟨p0, p1, p2, p3, p4, p5, p6, p7, p8⟩ := KB.out _ hB
    go_quiet (fail)
    go_wp2
    go_ret
    exact ⟨by rw [H.out]; rfl, ⟨M, hb0.below (by first | exact hB | exact hB.drew | exact below_drewN hB _), fun h => by rw [H.out] at h; cases h⟩, hK0.then (by first | exact hB | exact hB.drew | exact below_drewN hB _)⟩
  have dqc3 := decide_eq_false qc3
  by_cases qc4 : M < ks.length
  · have dqc4 := decide_eq_true qc4
    have H := Lib.hid (shGood_no4 (deep := deep) (L := M + 1) (k := k) (l := l) (hi := hi) (m := m) (ks := ks) (kids := kids) (by omega))
    go_enter Tryd.func46, Tryd.ntmps46
    go_wp2
    rw [← HW.out]
    have hB := Below.refl W0.heap.size W0
    obtain ⟨p0, p1, p2, p3, p4, p5, p6, p7, p8⟩ := KB.out _ hB
    go_quiet (fail)
    go_wp2
    go_ret
    exact ⟨by rw [H.out]; rfl, ⟨M, hb0.below (by first | exact hB | exact hB.drew | exact below_drewN hB _), fun h => by rw [H.out] at h; cases h⟩, hK0.then (by first | exact hB | exact hB.drew | exact below_drewN hB _)⟩
  have dqc4 := decide_eq_false qc4
  cases ho : Sh.self (.mk k l hi ks m kids) with
  | false =>
    have HO := Lib.hid ho
    have H := Lib.hid (shGood_no5 (deep := deep) (L := M + 1) ho)
    clear ho
    go_enter Tryd.func46, Tryd.ntmps46
    go_wp2
    rw [← HW.out]
    have hB := Below.refl W0.heap.size W0
    go_region_held3 (fun W => W.cell? ⟨w.heap.size, 0, none⟩ = some (.int .i64 k) ∧ W.cell? ⟨w.heap.size, 1, none⟩ = some (.int .i64 l) ∧ W.cell? ⟨w.heap.size, 2, none⟩ = some (.int .i64 hi) ∧ W.cell? ⟨w.heap.size, 3, none⟩ = some (.slice a1 ks.length c1) ∧ W.cell? ⟨w.heap.size, 4, none⟩ = some (.int .i64 m) ∧ W.cell? ⟨w.heap.size, 5, none⟩ = some (.slice a2 kids.length c2) ∧ W.cell? ⟨w.heap.size + 1, 0, none⟩ = some (.int .i64 deep) ∧ W.cell? ⟨w.heap.size + 1 + 1, 0, none⟩ = some (.pointer (some ⟨g, 0, none⟩)) ∧ W.cell? ⟨g, 0, none⟩ = some (.int .i64 M))
      (first | exact KB.out _ hB | exact KB.out _ hB.drew)
      ((go_at_call 65; with_reducible refine (HF.out _ (by first | exact hB | exact hB.drew)).mono ?_; rw [HO.out]; rintro e w1 ⟨rfl, hb1⟩; replace hB := below2 (by first | exact hB | exact hB.drew) hb1 (Nat.le_refl _)))
    go_wp2
    go_ret
    exact ⟨by rw [H.out]; rfl, ⟨M, hb0.below (by first | exact hB | exact hB.drew | exact below_drewN hB _), fun h => by rw [H.out] at h; cases h⟩, hK0.then (by first | exact hB | exact hB.drew | exact below_drewN hB _)⟩
  | true =>
    have HO := Lib.hid ho
    have H0 := shGood_yes (L := M + 1) qc2 ho
    rw [show M + 1 - 1 = M by omega] at H0
    have H := Lib.hid H0
    clear H0
    clear ho
    go_enter Tryd.func46, Tryd.ntmps46
    go_wp2
    rw [← HW.out]
    have hB := Below.refl W0.heap.size W0
    go_region_held3 (fun W => W.cell? ⟨w.heap.size, 0, none⟩ = some (.int .i64 k) ∧ W.cell? ⟨w.heap.size, 1, none⟩ = some (.int .i64 l) ∧ W.cell? ⟨w.heap.size, 2, none⟩ = some (.int .i64 hi) ∧ W.cell? ⟨w.heap.size, 3, none⟩ = some (.slice a1 ks.length c1) ∧ W.cell? ⟨w.heap.size, 4, none⟩ = some (.int .i64 m) ∧ W.cell? ⟨w.heap.size, 5, none⟩ = some (.slice a2 kids.length c2) ∧ W.cell? ⟨w.heap.size + 1, 0, none⟩ = some (.int .i64 deep) ∧ W.cell? ⟨w.heap.size + 1 + 1, 0, none⟩ = some (.pointer (some ⟨g, 0, none⟩)) ∧ W.cell? ⟨g, 0, none⟩ = some (.int .i64 M))
      (first | exact KB.out _ hB | exact KB.out _ hB.drew)
      ((go_at_call 65; with_reducible refine (HF.out _ (by first | exact hB | exact hB.drew)).mono ?_; rw [HO.out]; rintro e w1 ⟨rfl, hb1⟩; replace hB := below2 (by first | exact hB | exact hB.drew) hb1 (Nat.le_refl _)))
    obtain ⟨p0, p1, p2, p3, p4, p5, p6, p7, p8⟩ := KB.out _ hB
    have hkw : Sh.wfs kids := hwf.2.2.2.2.2.2
    have hkb : kids.length + Sh.bulks kids ≤ 4294967295 := by simp only [Sh.bulk] at hbk; omega
    have HCC := Lib.hid (hC kids _ deep N g (w.heap.size + 1) (w.heap.size + 1 + 1) M _ hnk (HRk.out _ hB) hNg (hb0.below hB) (hbd0.below hB) (by omega) p7 (by omega) hkw hkb (hT0.out.below hB) hG (by omega) (by omega))
    go_wp2_with (go_at_call 66; refine HCC.out.mono ?_; rintro e w2 ⟨rfl, ⟨L', hbx, hL'⟩, hk2⟩)
    go_ret
    exact ⟨by rw [H.out]; simp, ⟨L', hbx, fun hh => by rw [H.out] at hh; rw [hL' hh]; simp only [Sh.nodes]; omega⟩, (hK0.then hB).trans hk2⟩

set_option maxHeartbeats 800000 in
set_option maxRecDepth 10000 in
theorem isShape1_any {n : Nat} (hA : IsA n) (x : Sh) (cs : List Value) (deep N g bd bl : Nat) (L : Int) (w : World) (hn : x.nodes ≤ n) (h : RdN N w x.d cs) (hNg : N ≤ g) (hbox : intBox w g L) (hbd : intBox w bd deep) (hbl : w.cell? ⟨bl, 0, none⟩ = some (.pointer (some ⟨g, 0, none⟩)))
    (hwf : x.wf) (hbk : x.bulk ≤ 4294967295) (hT : Tabs w) (hG : GlobN N) (hdeep : deep ≤ 1000) (hL : 0 ≤ L ∧ L ≤ 1000) :
    Calls Tryd.prog 67 #[.agg cs.toArray, .pointer (some ⟨bd, 0, none⟩), .pointer (some ⟨bl, 0, none⟩)] w fun e w' => e = .returned (.bool (!shGood (deep + 1) L x)) ∧ (∃ L' : Int, intBox w' g L' ∧ (shGood (deep + 1) L x = true → L' = L - x.nodes)) ∧ Keep (· = g) w w' := by
  obtain ⟨k, l, hi, a1, n1, c1, m, a2, n2, c2, rfl⟩ := Sh.form h.rd
  have hb1 := hbd.cell
  have hz1 := hbd.lt
  have hz2 : bl < w.heap.size := cell_lt hbl
  have hN : N ≤ w.heap.size := by have := hbox.lt; omega
  have hal : Below w.heap.size w (w.alloc (.cells #[.int .i64 k, .int .i64 l, .int .i64 hi, .slice a1 n1 c1, .int .i64 m, .slice a2 n2 c2] 29)) := (Below.refl _ _).alloc (Nat.le_refl _) _
  have HCC := Lib.hid (hA x _ (deep + 1) N g L _ hn (h.below (hal.mono hN)) hNg (hbox.below hal) hwf hbk (hT.below hal) hG (by omega) hL)
  go_enter Tryd.func67, Tryd.ntmps67
  go_wp2_with (go_at_call 46; refine HCC.out.mono ?_; rintro e w1 ⟨rfl, hL', hk1⟩)
  go_ret
  exact ⟨rfl, hL', (Keep.of_below hal).trans hk1⟩

theorem shGoods_snoc (deep : Nat) (L : Int) (xs : List Sh) (k : Nat) (hk : k < xs.length) (h : shGoods deep L (xs.take k) = true) :
    shGoods deep L (xs.take (k + 1)) = shGood deep (L - Sh.nodess (xs.take k)) xs[k] := by
  have hn : ∀ (ls : List Sh) (x : Sh), Sh.nodess (ls ++ [x]) = Sh.nodess ls + x.nodes := by
    intro ls x; induction ls with
    | nil => simp [Sh.nodess]
    | cons a ls ih => simp only [List.cons_append, Sh.nodess, ih]; omega
  unfold shGoods at h ⊢; unfold shGood
  rw [List.take_succ_eq_append_getElem hk, hn, Sh.rights_all, List.all_append]
  rw [Sh.rights_all] at h
  simp only [Bool.and_eq_true, decide_eq_true_eq] at h
  rw [h.1, Bool.true_and]
  congr 1
  · simp
  · exact decide_eq_decide.2 (by omega)
theorem shGoods_cut (deep : Nat) (L : Int) (xs : List Sh) (k : Nat) (h : shGoods deep L (xs.take k) = false) : shGoods deep L xs = false := by
  have hn : ∀ (ls ms : List Sh), Sh.nodess (ls ++ ms) = Sh.nodess ls + Sh.nodess ms := by
    intro ls ms; induction ls with
    | nil => simp [Sh.nodess]
    | cons a ls ih => simp only [List.cons_append, Sh.nodess, ih]; omega
  cases hk : shGoods deep L xs with
  | false => rfl
  | true =>
    exfalso
    rw [← List.take_append_drop k xs] at hk
    unfold shGoods at h hk
    rw [Sh.rights_all, List.all_append, hn] at hk
    rw [Sh.rights_all] at h
    simp only [Bool.and_eq_true, decide_eq_true_eq] at hk
    rw [hk.1.1, decide_eq_true (by omega)] at h; cases h
theorem Sh.bulk_get' {ls : List Sh} {m : Nat} (h : ls.length + Sh.bulks ls ≤ m) (k : Nat) (hk : k < ls.length) : ls[k].bulk ≤ m := by
  have h1 := Sh.bulks_snoc ls k hk; have h2 := Sh.bulks_take ls (k + 1); omega

set_option maxHeartbeats 1600000 in
set_option maxRecDepth 10000 in
theorem isIndex_any {n : Nat} (hA : IsA n) (xs : List Sh) (va : Value) (deep N g bd bl : Nat) (L : Int) (w : World) (hn : Sh.nodess xs ≤ n) (h : RdN N w (.sl 6 (Sh.ds xs)) [va]) (hNg : N ≤ g) (hbox : intBox w g L) (hbd : intBox w bd deep) (hbg : bd ≠ g) (hbl : w.cell? ⟨bl, 0, none⟩ = some (.pointer (some ⟨g, 0, none⟩))) (hlg : bl ≠ g)
    (hwf : Sh.wfs xs) (hbk : xs.length + Sh.bulks xs ≤ 4294967295) (hT : Tabs w) (hG : GlobN N) (hdeep : deep ≤ 1000) (hL : 0 ≤ L ∧ L ≤ 1000) :
    Calls Tryd.prog 85 #[va, .func (.func 67) #[] #[.pointer (some ⟨bd, 0, none⟩), .pointer (some ⟨bl, 0, none⟩)]] w fun e w' => (∃ r : Int, e = .returned (.int .i64 r) ∧ decide (0 ≤ r) = !shGoods (deep + 1) L xs) ∧ (∃ L' : Int, intBox w' g L' ∧ (shGoods (deep + 1) L xs = true → L' = L - Sh.nodess xs)) ∧ Keep (· = g) w w' := by
  have hN : N ≤ w.heap.size := by have := hbox.lt; omega
  have hng : ∀ k, k < N → ¬ k = g := by intro k hk e; omega
  have hz1 := hbd.lt
  have hz2 : bl < w.heap.size := cell_lt hbl
  have hlen : xs.length ≤ 4294967295 := by omega
  obtain ⟨a, c, rfl, hg⟩ := RepC.shapes h
  obtain ⟨ok, hok⟩ : ∃ ok, shGoods (deep + 1) L xs = ok := ⟨_, rfl⟩
  rw [hok]
  have HOK := Lib.hid hok; clear hok
  obtain ⟨hL1, hL2⟩ := hL
  go_enter Tryd.func85, Tryd.ntmps85
  go_wp2
  go_loopw [8] (fun i wr => ∃ (k : Nat), k ≤ xs.length ∧ i = .int .i64 k ∧ intBox wr g (L - Sh.nodess (xs.take k)) ∧ shGoods (deep + 1) L (xs.take k) = true ∧ Keep (· = g) w wr) (fun i _ => xs.length - (intOf i).toNat)
  case atStart => exact ⟨0, Nat.zero_le _, rfl, by simpa [Sh.nodess] using hbox, by simp [shGoods, Sh.rights, Sh.nodess, hL1], Keep.refl _ _⟩
  case round =>
    obtain ⟨k, hk, rfl, hbx, hgd, hkp⟩ := hrel
    have HGD := Lib.hid hgd
    have hle : (Sh.nodess (xs.take k) : Int) ≤ L := by unfold shGoods at hgd; simp only [Bool.and_eq_true, decide_eq_true_eq] at hgd; exact hgd.2
    clear hgd
    by_cases hlt : k < xs.length
    · obtain ⟨_, _, b, o, rfl, hb, hcell⟩ := hg (by intro e; rw [e] at hlt; simp at hlt)
      obtain ⟨v0, v1, v2, v3, v4, v5, hr, d0, d1, d2, d3, d4, d5⟩ := hcell k hlt
      clear hcell hg
      obtain ⟨k1, k2, k3, a4, n4, m4, k5, a6, n6, m6, hcs⟩ := Sh.formS hr
      simp only [List.cons.injEq, and_true] at hcs
      obtain ⟨rfl, rfl, rfl, rfl, rfl, rfl⟩ := hcs
      have hbN : b < w.heap.size := by omega
      have hbg' := hng b hb
      rw [← hkp.cell hbN hbg'] at d0 d1 d2 d3 d4 d5
      have hi1 : (0 : Int) ≤ k := by omega
      have hi3 : (k : Int) < xs.length := by omega
      have hnk : xs[k].nodes ≤ n := Nat.le_trans (Sh.nodes_get xs k hlt) hn
      have HC := Lib.hid (isShape1_any hA xs[k] _ deep N g bd bl _ wr hnk (RdN.keep (N := N) hr hkp hN hng) hNg hbx (hbd.keep hkp hbg) (by rw [hkp.cell hz2 hlg]; exact hbl) (Sh.wfs_get hwf k hlt) (Sh.bulk_get' hbk k hlt) (hT.keep hG hkp hN hng) hG hdeep (by omega))
      have HSN := Lib.hid (shGoods_snoc (deep + 1) L xs k hlt HGD.out)
      have hns : Sh.nodess (xs.take (k + 1)) = Sh.nodess (xs.take k) + xs[k].nodes := by
        rw [List.take_succ_eq_append_getElem hlt]
        have hn : ∀ (ls : List Sh) (x : Sh), Sh.nodess (ls ++ [x]) = Sh.nodess ls + x.nodes := by
          intro ls x; induction ls with
          | nil => simp [Sh.nodess]
          | cons a ls ih => simp only [List.cons_append, Sh.nodess, ih]; omega
        exact hn _ _
      have HNS := Lib.hid hns
      clear hns hr hbx h hT hwf hbk hng hbox hbd hbl
      cases hgd : shGood (deep + 1) (L - Sh.nodess (xs.take k)) xs[k] with
      | true =>
        have HG := Lib.hid hgd; clear hgd
        go_wp2_with (go_at_call 67; refine HC.out.mono ?_; rw [HG.out]; rintro e w1 ⟨rfl, ⟨L', hbx1, hL'⟩, hk1⟩)
        go_roundw
        case rel => exact ⟨k + 1, by omega, by go_num, by rw [show L - (Sh.nodess (xs.take (k + 1)) : Int) = L' by rw [hL' trivial, HNS.out]; omega]; exact hbx1, by rw [HSN.out, HG.out], hkp.trans hk1⟩
        case measure => simp [intOf]; omega
      | false =>
        have HG := Lib.hid hgd; clear hgd
        have HF := Lib.hid (show ok = false by rw [← HOK.out]; exact shGoods_cut _ _ _ (k + 1) (by rw [HSN.out, HG.out]))
        go_wp2_with (go_at_call 67; refine HC.out.mono ?_; rw [HG.out]; rintro e w1 ⟨rfl, ⟨L', hbx1, hL'⟩, hk1⟩)
        go_ret
        exact ⟨⟨_, rfl, by rw [HF.out]; simp⟩, ⟨L', hbx1, fun hh => by rw [HF.out] at hh; cases hh⟩, hkp.trans hk1⟩
    · obtain rfl : k = xs.length := by omega
      have h1 := HGD.out
      rw [List.take_length] at h1 hbx
      have HF := Lib.hid (show ok = true by rw [← HOK.out]; exact h1)
      clear h1
      go_wp2
      go_ret
      exact ⟨⟨_, rfl, by rw [HF.out]; rfl⟩, ⟨_, hbx, fun _ => rfl⟩, hkp⟩

set_option maxHeartbeats 400000 in
theorem IsC_of {n : Nat} (hA : IsA n) : IsC n := by
  intro xs va deep N g bd bl L w hn h hNg hbox hbd hbg hbl hlg hwf hbk hT hG hdeep hL
  have HC := Lib.hid (isIndex_any hA xs va deep N g bd bl L w hn h hNg hbox hbd hbg hbl hlg hwf hbk hT hG hdeep hL)
  go_enter Tryd.func66, Tryd.ntmps66
  go_wp2_with (go_at_call 85; refine HC.out.mono ?_; rintro e w1 ⟨⟨r, rfl, hr⟩, hL', hk1⟩; have HR := Lib.hid hr; clear hr)
  go_ret
  exact ⟨by rw [← HR.out]; rfl, hL', hk1⟩
theorem Is_all : ∀ n, IsA n
  | 0 => fun x cs deep N g L w hn => absurd x.nodes_pos (by omega)
  | n + 1 => IsA_of (IsC_of (Is_all n))

set_option maxHeartbeats 400000 in
set_option maxRecDepth 10000 in
theorem shapeOk_impl (x : Sh) (cs : List Value) (w : World) (h : Rd w x.d cs) (hwf : x.wf) (hbk : x.bulk ≤ 4294967295) (hT : Tabs w) :
    Calls Tryd.prog 24 #[.agg cs.toArray] w fun e w' => e = .returned (.bool x.ok) ∧ Below w.heap.size w w' := by
  obtain ⟨k, l, hi, a1, n1, c1, m, a2, n2, c2, rfl⟩ := Sh.form h
  obtain ⟨W0, hW0⟩ : ∃ W0, W0 = (w.alloc (.cells #[.int .i64 k, .int .i64 l, .int .i64 hi, .slice a1 n1 c1, .int .i64 m, .slice a2 n2 c2] 29)).alloc (.cells #[.int .i64 100] 3) := ⟨_, rfl⟩
  have HW := Lib.hid hW0
  have hA : Below w.heap.size w W0 := by rw [hW0]; exact ((Below.refl _ _).alloc (Nat.le_refl _) _).alloc (by simp) _
  have hbx : intBox W0 (w.heap.size + 1) 100 := by
    rw [hW0]
    have := heap_alloc_new (w.alloc (.cells #[.int .i64 k, .int .i64 l, .int .i64 hi, .slice a1 n1 c1, .int .i64 m, .slice a2 n2 c2] 29)) (.cells #[.int .i64 100] 3)
    simpa [intBox] using this
  have HC := Lib.hid (Is_all x.nodes x _ 0 w.heap.size (w.heap.size + 1) 100 W0 (Nat.le_refl _) (h.rdN.below hA) (by omega) hbx hwf hbk (hT.below hA) ⟨hT.lt.1, hT.lt.2⟩ (by decide) (by decide))
  have hsz : W0.heap.size = w.heap.size + 2 := by rw [hW0]; simp
  clear hW0 h hbx
  go_enter Tryd.func24, Tryd.ntmps24
  go_wp2_with (go_at_call 46; rw [← HW.out]; refine HC.out.mono ?_; rintro e w1 ⟨rfl, _, hk1⟩)
  go_ret
  refine ⟨ret_bool ?_, hA.trans (hk1.below (by omega) (fun k hk e => by omega))⟩
  show shGood 0 100 x = _
  unfold shGood Sh.ok; congr 1
  exact decide_eq_decide.2 (by omega)
end Go.Proofs.YtpknmldpdoadgaaDoor

/- Steps through a region that draws its order, one named operation at a time; operations whose guard says no are passed over together. No program in sight. -/
namespace Go.Proofs.YtpknmldpdoadgaaDoor
open Go.RowKit

section
variable {P : Program} {ops : Array Oper} {Q : Exit → Act → World → Prop} {md : Region.Mode} {S : World → Prop}

/-- an operation that yields its value in every world that meets S is taken first -/
theorem takeW {i F fuel : Nat} {oi : Oper} {d : Option Tmp} {v : Value} {listed listed' : Array Bool} {a : Act} {w : World} (hi : ops[i]? = some oi) (hd : oi.dst = d) (hF : F = fuel + 1) (hl : listed.setIfInBounds i true = listed')
    (hs : Region.noSelect ops = true) (hf : Region.free md ops listed i = true) (hr : (Region.ready md ops listed).contains i = true)
    (hQ : ∀ c a w, Q (.panic c) (a.put d v) w → Q (.panic c) a w) (hw : Region.wanted oi (yielded ops a.tmps) = true) (hS : S w)
    (hv : ∀ w, S w → (execOp a.eval oi).run P w = .ok (.value v) w)
    (h : wpAnyH P md ops Q S fuel listed' (a.put d v) w) : wpAnyH P md ops Q S F listed a w := by
  subst hF hd hl
  exact wpAnyH_take hi hs hf hr hQ (.inl ⟨hw, hv⟩) hS h

/-- the operations i (with their temporaries d), each passed over -/
def skipFine (md : Region.Mode) (ops : Array Oper) : List (Nat × Tmp) → Array Bool → Array Value → Bool
  | [], _, _ => true
  | (i, d) :: r, listed, tmps => (match ops[i]? with | some o => decide (o.dst = some d) && !Region.wanted o (yielded ops tmps) | none => false) && (Region.free md ops listed i && ((Region.ready md ops listed).contains i &&
      skipFine md ops r (listed.setIfInBounds i true) (tmps.setIfInBounds d undef)))
def skipListed : List (Nat × Tmp) → Array Bool → Array Bool
  | [], listed => listed
  | (i, _) :: r, listed => skipListed r (listed.setIfInBounds i true)
def skipAct : List (Nat × Tmp) → Act → Act
  | [], a => a
  | (_, d) :: r, a => skipAct r { a with tmps := a.tmps.setIfInBounds d undef }
theorem takeS {w : World} (hs : Region.noSelect ops = true) (hQ : ∀ c a d w, Q (.panic c) (a.put (some d) undef) w → Q (.panic c) a w) (hS : S w) : ∀ (l : List (Nat × Tmp)) {F fuel : Nat} {listed listed' : Array Bool} {a : Act}, F = fuel + l.length → skipListed l listed = listed' →
    skipFine md ops l listed a.tmps = true → wpAnyH P md ops Q S fuel listed' (skipAct l a) w → wpAnyH P md ops Q S F listed a w
  | [], F, fuel, listed, listed', a, hF, hl, _, h => by subst hF hl; exact h
  | (i, d) :: r, F, fuel, listed, listed', a, hF, hl, hk, h => by
    subst hF hl
    simp only [skipFine, Bool.and_eq_true] at hk
    obtain ⟨h1, h2, h3, h4⟩ := hk
    cases ho : ops[i]? with
    | none => rw [ho] at h1; cases h1
    | some o =>
      rw [ho] at h1
      simp only [Bool.and_eq_true, decide_eq_true_eq, Bool.not_eq_true'] at h1
      obtain ⟨hd, hw⟩ := h1
      refine wpAnyH_take (fuel := fuel + r.length) (v := undef) ho hs h2 h3 (by rw [hd]; exact fun c a w => hQ c a d w) (.inr ⟨hw, rfl⟩) hS ?_
      rw [hd]
      exact takeS hs hQ hS r rfl rfl h4 h

/-- a call (or whatever may do more) comes up, it alone -/
theorem takeC {i F fuel : Nat} {oi : Oper} {d : Option Tmp} {listed listed' : Array Bool} {a : Act} {w : World} (hi : ops[i]? = some oi) (hd : oi.dst = d) (hF : F = fuel + 1) (hl : listed.setIfInBounds i true = listed')
    (hr : Region.ready md ops listed = [i]) (hw : Region.wanted oi (yielded ops a.tmps) = true)
    (h : ∀ K' : Act → World → Prop, Shut (∀ a w, S w → (S w → wpAnyH P md ops Q S fuel listed' a w) → K' a w) → Oper.wp P oi a w K' Q) : wpAnyH P md ops Q S F listed a w := by
  subst hF hl hd
  refine wpAnyH_ready hr (by simp) (AllReadyH.cons hi (fun K' hK => ?_) AllReadyH.nil)
  rw [if_pos hw]; exact h K' hK
end
end Go.Proofs.YtpknmldpdoadgaaDoor

/- When a shape is right but for its kids: the reference's l15Keys and l15Own. -/
namespace Go.Proofs.YtpknmldpdoadgaaDoor
open Go.RowKit
open Go.Lib (validD)

theorem ixF_first (ls : List (List UInt8)) (k : Nat) (hk : k < ls.length) : ∀ i, ls[k] ∉ ls.take k → ixF (ls.drop 0) ls[k] i = i + k := by
  intro i h
  rw [List.drop_zero]
  induction ls generalizing k i with
  | nil => simp at hk
  | cons a r ih =>
    match k with
    | 0 => simp [ixF]
    | k + 1 =>
      simp only [List.take_succ_cons, List.mem_cons, not_or, List.getElem_cons_succ] at h ⊢
      unfold ixF; rw [if_neg (fun e => h.1 e.symm), ih k (by simpa using hk) (i + 1) h.2]; omega
theorem ixF_again (ls : List (List UInt8)) (k : Nat) (hk : k < ls.length) : ∀ i, ls[k] ∈ ls.take k → ixF ls ls[k] i ≠ i + k := by
  intro i h
  induction ls generalizing k i with
  | nil => simp at hk
  | cons a r ih =>
    match k with
    | 0 => simp at h
    | k + 1 =>
      simp only [List.take_succ_cons, List.mem_cons, List.getElem_cons_succ] at h ⊢
      unfold ixF; split
      · omega
      · rename_i hne
        rcases h with h | h
        · exact absurd h.symm hne
        · have := ih k (by simpa using hk) (i + 1) h; intro e; apply this; omega

set_option maxHeartbeats 8000000 in
set_option maxRecDepth 10000 in
theorem l15Keys_any (x : Sh) (cs : List Value) (w : World) (h : Rd w x.d cs) (hwf : x.wf) (hbk : x.bulk ≤ 4294967295) :
    Calls Tryd.prog 82 #[.agg cs.toArray] w fun e w' => e = .returned (.bool (match x with | .mk _ _ _ ks m kids => Sh.fields ks m kids.length)) ∧ Below w.heap.size w w' := by
  obtain ⟨k, l, hi, ks, m, kids, v1, v2, rfl, rfl, hk, hkids⟩ := Sh.lay h
  obtain ⟨ok, hok⟩ : ∃ ok, Sh.fields ks m kids.length = ok := ⟨_, rfl⟩
  simp only [hok]
  have HOK := Lib.hid hok; clear hok
  have hbk1 : ks.length ≤ 4294967295 ∧ kids.length ≤ 4294967295 := by simp only [Sh.bulk] at hbk; omega
  obtain ⟨hn1, hn2⟩ := hbk1
  have hstr : ∀ i (hi : i < ks.length), ks[i].length ≤ 4294967295 := fun i hi => by
    have h1 := ssBulk_snoc ks i hi; have h2 := ssBulk_take ks (i + 1); simp only [Sh.bulk] at hbk; omega
  have hrow := hk.strRow
  obtain ⟨a1, c1, rfl, hg⟩ := hk.strs
  obtain ⟨a2, c2, rfl⟩ := Rd.sl_form hkids
  rw [Sh.ds_map, List.length_map]
  have hm1 := hwf.2.2.2.2.1.1
  have hm2 := hwf.2.2.2.2.1.2
  clear hwf hbk h
  obtain ⟨W0, hW0⟩ : ∃ W0, W0 = w.alloc (.cells #[.int .i64 k, .int .i64 l, .int .i64 hi, .slice a1 ks.length c1, .int .i64 m, .slice a2 kids.length c2] 29) := ⟨_, rfl⟩
  have HW := Lib.hid hW0
  have hA : Below w.heap.size w W0 := by rw [hW0]; exact (Below.refl _ _).alloc (Nat.le_refl _) _
  have hz : w.heap.size < W0.heap.size := by rw [hW0]; simp
  have f3 : W0.cell? ⟨w.heap.size, 3, none⟩ = some (.slice a1 ks.length c1) := by rw [hW0]; simp
  have f4 : W0.cell? ⟨w.heap.size, 4, none⟩ = some (.int .i64 m) := by rw [hW0]; simp
  have f5 : W0.cell? ⟨w.heap.size, 5, none⟩ = some (.slice a2 kids.length c2) := by rw [hW0]; simp
  have hrow0 : StrRow W0 (.slice a1 ks.length c1) ks := by rw [hW0]; exact hrow.alloc _
  have KB : Hid (∀ W, Below W0.heap.size W0 W → W.cell? ⟨w.heap.size, 3, none⟩ = some (.slice a1 ks.length c1) ∧ W.cell? ⟨w.heap.size, 4, none⟩ = some (.int .i64 m) ∧ W.cell? ⟨w.heap.size, 5, none⟩ = some (.slice a2 kids.length c2)) := by
    intro W hb
    obtain ⟨hc, _⟩ := bcell hb
    simp only [hc _ _ hz]; exact ⟨f3, f4, f5⟩
  clear hW0 f3 f4 f5
  go_enter Tryd.func82, Tryd.ntmps82
  go_wp2
  rw [← HW.out]
  go_loopw [3] (fun i wr => ∃ (j : Nat), j ≤ ks.length ∧ i = .int .i64 j ∧ keysOk (ks.take j) = true ∧ Below W0.heap.size W0 wr) (fun i _ => ks.length - (intOf i).toNat)
  case atStart => exact ⟨0, Nat.zero_le _, rfl, by simp [keysOk], Below.refl _ _⟩
  case round =>
    obtain ⟨j, hj, rfl, hko, hbel⟩ := hrel
    have HKO := Lib.hid hko; clear hko
    obtain ⟨f3, f4, f5⟩ := KB.out _ hbel
    by_cases hlt : j < ks.length
    · obtain ⟨hc0, _, b, o, rfl, hb, hcell⟩ := hg (by intro e; rw [e] at hlt; simp at hlt)
      have hsl := hstr j hlt
      have hcj := hcell j hlt
      clear hcell hg hstr
      have hi1 : (0 : Int) ≤ j := by omega
      have hi3 : (j : Int) < ks.length := by omega
      have KC : Hid (∀ W, Below W0.heap.size W0 W → W.cell? ⟨b, o + j, none⟩ = some (.string ⟨ks[j].toArray⟩)) := fun W hB => by
        rw [(bcell (below2 hA hB (Nat.le_refl _))).1 _ _ hb]; exact hcj
      have HC1 := Lib.hid (fun W (hB : Below W0.heap.size W0 W) => l11At_any ks _ ks[j] W (hrow0.below hB) (by omega))
      have HT1 := Lib.hid (fun W => textOk_spec ks[j] W hsl)
      have hsn : keysOk (ks.take (j + 1)) = (keyOk ks[j] && decide (ks[j] ∉ ks.take j)) := by
        rw [List.take_succ_eq_append_getElem hlt, keysOk_snoc, HKO.out, Bool.true_and]
      have HSN := Lib.hid hsn
      have hB := hbel
      clear hsn hrow0 hrow hk hkids hcj
      by_cases q2 : validD ks[j] = true
      · have Q2 := Lib.hid q2
        by_cases q1 : ks[j].length ≤ 100
        · have q1' := decide_eq_false (show ¬ (100 : Int) < ks[j].length by omega)
          by_cases q3 : ks[j] ∈ ks.take j
          · have Q3 := Lib.hid (ixF_again ks j hlt 0 q3)
            have HF : Hid (Sh.fields ks m kids.length = false) := by
              show _ = _
              have : keysOk (ks.take (j + 1)) = false := by rw [HSN.out]; simp [q3]
              unfold Sh.fields; rw [keysOk_take _ this]; rfl
            have q4 : ((ixF ks ks[j] 0) != (j : Int)) = true := by have := Q3.out; simp at this ⊢; omega
            clear q2 q3
            go_wp2_with fail
            first | (go_region_held3 (fun W => (W.cell? ⟨w.heap.size, 3, none⟩ = some (.slice (some ⟨b, o, none⟩) ks.length c1) ∧ W.cell? ⟨w.heap.size, 4, none⟩ = some (.int .i64 m) ∧ W.cell? ⟨w.heap.size, 5, none⟩ = some (.slice a2 kids.length c2)) ∧ W.cell? ⟨b, o + j, none⟩ = some (.string ⟨ks[j].toArray⟩))
              (first | exact ⟨KB.out _ hB, KC.out _ hB⟩ | exact ⟨KB.out _ hB.drew, KC.out _ hB.drew⟩)
              (first | (go_at_call 90; with_reducible refine (HT1.out _).mono ?_; rw [Q2.out]; rintro e w1 ⟨rfl, hb1⟩; replace hB := below2 (by first | exact hB | exact hB.drew) hb1 (Nat.le_refl _)) | (go_at_call 63; refine (HC1.out _ (by first | exact hB | exact hB.drew)).mono ?_; rintro e w1 ⟨rfl, hb1⟩; replace hB := below2 (by first | exact hB | exact hB.drew) hb1 (Nat.le_refl _)))) | fail
            go_wp2
            go_ret
            exact ⟨by rw [← HOK.out, HF.out]; rfl, below2 hA hB (Nat.le_refl _)⟩
          · have Q3 := Lib.hid (ixF_first ks j hlt 0 q3)
            have HK : Hid (keysOk (ks.take (j + 1)) = true) := by
              show _ = _; rw [HSN.out]; simp [q3, keyOk, q1, q2]
            have q4 : ((ixF ks ks[j] 0) != (j : Int)) = false := by have := Q3.out; simp at this ⊢; omega
            clear q2 q3
            go_wp2_with fail
            first | (go_region_held3 (fun W => (W.cell? ⟨w.heap.size, 3, none⟩ = some (.slice (some ⟨b, o, none⟩) ks.length c1) ∧ W.cell? ⟨w.heap.size, 4, none⟩ = some (.int .i64 m) ∧ W.cell? ⟨w.heap.size, 5, none⟩ = some (.slice a2 kids.length c2)) ∧ W.cell? ⟨b, o + j, none⟩ = some (.string ⟨ks[j].toArray⟩))
              (first | exact ⟨KB.out _ hB, KC.out _ hB⟩ | exact ⟨KB.out _ hB.drew, KC.out _ hB.drew⟩)
              (first | (go_at_call 90; with_reducible refine (HT1.out _).mono ?_; rw [Q2.out]; rintro e w1 ⟨rfl, hb1⟩; replace hB := below2 (by first | exact hB | exact hB.drew) hb1 (Nat.le_refl _)) | (go_at_call 63; refine (HC1.out _ (by first | exact hB | exact hB.drew)).mono ?_; rintro e w1 ⟨rfl, hb1⟩; replace hB := below2 (by first | exact hB | exact hB.drew) hb1 (Nat.le_refl _)))) | fail
            go_wp2
            go_roundw
            case rel => exact ⟨j + 1, by omega, by go_num, HK.out, hB⟩
            case measure => simp [intOf]; omega
        · have q1' := decide_eq_true (show (100 : Int) < ks[j].length by omega)
          have HF : Hid (Sh.fields ks m kids.length = false) := by
            show _ = _
            have : keysOk (ks.take (j + 1)) = false := by rw [HSN.out]; simp [keyOk, q1]
            unfold Sh.fields; rw [keysOk_take _ this]; rfl
          clear q2 q1
          go_wp2_with fail
          refine wp_region_held_drew (S := (fun W => (W.cell? ⟨w.heap.size, 3, none⟩ = some (.slice (some ⟨b, o, none⟩) ks.length c1) ∧ W.cell? ⟨w.heap.size, 4, none⟩ = some (.int .i64 m) ∧ W.cell? ⟨w.heap.size, 5, none⟩ = some (.slice a2 kids.length c2)) ∧ W.cell? ⟨b, o + j, none⟩ = some (.string ⟨ks[j].toArray⟩))) (by kernel_rfl) ?_ (fun hHeld => ?_)
          · ((try dsimp only); (first | exact ⟨KB.out _ hB, KC.out _ hB⟩ | exact ⟨KB.out _ hB.drew, KC.out _ hB.drew⟩))
          refine takeW (i := 0) (fuel := 27) (d := some 11) (v := ?vb0) (listed' := #[true, false, false, false, false, false, false, false, false, false, false, false, false, false, false, false, false, false, false, false, false, false, false, false, false, false, false, false]) rfl rfl (by kernel_rfl) (by kernel_rfl) (by kernel_rfl) (by kernel_rfl) (by kernel_rfl) (fun _ _ _ h => h) (by kernel_rfl) (by assumption) ?hb0 ?rb0
          case hb0 => (intro w hSw; (try dsimp only at hSw); go_simp; all_goals with_reducible rfl)
          simp only [skipAct, Act.put, List.setIfInBounds_toArray, List.set_cons_zero, List.set_cons_succ]
          refine takeW (i := 1) (fuel := 26) (d := some 12) (v := ?vb1) (listed' := #[true, true, false, false, false, false, false, false, false, false, false, false, false, false, false, false, false, false, false, false, false, false, false, false, false, false, false, false]) rfl rfl (by kernel_rfl) (by kernel_rfl) (by kernel_rfl) (by kernel_rfl) (by kernel_rfl) (fun _ _ _ h => h) (by kernel_rfl) (by assumption) ?hb1 ?rb1
          case hb1 => (intro w hSw; (try dsimp only at hSw); go_simp; all_goals with_reducible rfl)
          simp only [skipAct, Act.put, List.setIfInBounds_toArray, List.set_cons_zero, List.set_cons_succ]
          refine takeW (i := 2) (fuel := 25) (d := some 13) (v := ?vb2) (listed' := #[true, true, true, false, false, false, false, false, false, false, false, false, false, false, false, false, false, false, false, false, false, false, false, false, false, false, false, false]) rfl rfl (by kernel_rfl) (by kernel_rfl) (by kernel_rfl) (by kernel_rfl) (by kernel_rfl) (fun _ _ _ h => h) (by kernel_rfl) (by assumption) ?hb2 ?rb2
          case hb2 => (intro w hSw; (try dsimp only at hSw); go_simp; all_goals with_reducible rfl)
          simp only [skipAct, Act.put, List.setIfInBounds_toArray, List.set_cons_zero, List.set_cons_succ]
          refine takeW (i := 3) (fuel := 24) (d := some 14) (v := ?vb3) (listed' := #[true, true, true, true, false, false, false, false, false, false, false, false, false, false, false, false, false, false, false, false, false, false, false, false, false, false, false, false]) rfl rfl (by kernel_rfl) (by kernel_rfl) (by kernel_rfl) (by kernel_rfl) (by kernel_rfl) (fun _ _ _ h => h) (by kernel_rfl) (by assumption) ?hb3 ?rb3
          case hb3 => (intro w hSw; (try dsimp only at hSw); go_simp; all_goals with_reducible rfl)
          simp only [skipAct, Act.put, List.setIfInBounds_toArray, List.set_cons_zero, List.set_cons_succ]
          refine takeW (i := 4) (fuel := 23) (d := some 15) (v := ?vb4) (listed' := #[true, true, true, true, true, false, false, false, false, false, false, false, false, false, false, false, false, false, false, false, false, false, false, false, false, false, false, false]) rfl rfl (by kernel_rfl) (by kernel_rfl) (by kernel_rfl) (by kernel_rfl) (by kernel_rfl) (fun _ _ _ h => h) (by kernel_rfl) (by assumption) ?hb4 ?rb4
          case hb4 => (intro w hSw; (try dsimp only at hSw); go_simp; all_goals with_reducible rfl)
          simp only [skipAct, Act.put, List.setIfInBounds_toArray, List.set_cons_zero, List.set_cons_succ]
          refine takeC (i := 5) (fuel := 22) (d := some 16) (listed' := #[true, true, true, true, true, true, false, false, false, false, false, false, false, false, false, false, false, false, false, false, false, false, false, false, false, false, false, false]) rfl rfl (by kernel_rfl) (by kernel_rfl) (by kernel_rfl) (by kernel_rfl) (fun K hK => ?cb5)
          go_simp
          (go_at_call 90; with_reducible refine (HT1.out _).mono ?_; rw [Q2.out]; rintro e w1 ⟨rfl, hb1⟩; replace hB := below2 (by first | exact hB | exact hB.drew) hb1 (Nat.le_refl _))
          go_wp2_with fail
          refine hK.out _ _ ?kb5 (fun hHeld => ?nb5)
          case kb5 => ((try dsimp only); (first | exact ⟨KB.out _ hB, KC.out _ hB⟩ | exact ⟨KB.out _ hB.drew, KC.out _ hB.drew⟩))
          clear hK K
          try simp only [skipAct, Act.put, List.setIfInBounds_toArray, List.set_cons_zero, List.set_cons_succ]
          refine takeW (i := 6) (fuel := 21) (d := some 17) (v := ?vb6) (listed' := #[true, true, true, true, true, true, true, false, false, false, false, false, false, false, false, false, false, false, false, false, false, false, false, false, false, false, false, false]) rfl rfl (by kernel_rfl) (by kernel_rfl) (by kernel_rfl) (by kernel_rfl) (by kernel_rfl) (fun _ _ _ h => h) (by kernel_rfl) (by assumption) ?hb6 ?rb6
          case hb6 => (intro w hSw; (try dsimp only at hSw); go_simp; all_goals with_reducible rfl)
          simp only [skipAct, Act.put, List.setIfInBounds_toArray, List.set_cons_zero, List.set_cons_succ]
          refine takeW (i := 7) (fuel := 20) (d := some 18) (v := ?vb7) (listed' := #[true, true, true, true, true, true, true, true, false, false, false, false, false, false, false, false, false, false, false, false, false, false, false, false, false, false, false, false]) rfl rfl (by kernel_rfl) (by kernel_rfl) (by kernel_rfl) (by kernel_rfl) (by kernel_rfl) (fun _ _ _ h => h) (by kernel_rfl) (by assumption) ?hb7 ?rb7
          case hb7 => (intro w hSw; (try dsimp only at hSw); go_simp; all_goals with_reducible rfl)
          simp only [skipAct, Act.put, List.setIfInBounds_toArray, List.set_cons_zero, List.set_cons_succ]
          refine takeW (i := 8) (fuel := 19) (d := some 19) (v := ?vb8) (listed' := #[true, true, true, true, true, true, true, true, true, false, false, false, false, false, false, false, false, false, false, false, false, false, false, false, false, false, false, false]) rfl rfl (by kernel_rfl) (by kernel_rfl) (by kernel_rfl) (by kernel_rfl) (by kernel_rfl) (fun _ _ _ h => h) (by kernel_rfl) (by assumption) ?hb8 ?rb8
          case hb8 => (intro w hSw; (try dsimp only at hSw); go_simp; all_goals with_reducible rfl)
          simp only [skipAct, Act.put, List.setIfInBounds_toArray, List.set_cons_zero, List.set_cons_succ]
          refine takeW (i := 9) (fuel := 18) (d := some 20) (v := ?vb9) (listed' := #[true, true, true, true, true, true, true, true, true, true, false, false, false, false, false, false, false, false, false, false, false, false, false, false, false, false, false, false]) rfl rfl (by kernel_rfl) (by kernel_rfl) (by kernel_rfl) (by kernel_rfl) (by kernel_rfl) (fun _ _ _ h => h) (by kernel_rfl) (by assumption) ?hb9 ?rb9
          case hb9 => (intro w hSw; (try dsimp only at hSw); go_simp; all_goals with_reducible rfl)
          simp only [skipAct, Act.put, List.setIfInBounds_toArray, List.set_cons_zero, List.set_cons_succ]
          refine takeW (i := 10) (fuel := 17) (d := some 21) (v := ?vb10) (listed' := #[true, true, true, true, true, true, true, true, true, true, true, false, false, false, false, false, false, false, false, false, false, false, false, false, false, false, false, false]) rfl rfl (by kernel_rfl) (by kernel_rfl) (by kernel_rfl) (by kernel_rfl) (by kernel_rfl) (fun _ _ _ h => h) (by kernel_rfl) (by assumption) ?hb10 ?rb10
          case hb10 => (intro w hSw; (try dsimp only at hSw); go_simp; all_goals with_reducible rfl)
          simp only [skipAct, Act.put, List.setIfInBounds_toArray, List.set_cons_zero, List.set_cons_succ]
          refine takeW (i := 11) (fuel := 16) (d := some 22) (v := ?vb11) (listed' := #[true, true, true, true, true, true, true, true, true, true, true, true, false, false, false, false, false, false, false, false, false, false, false, false, false, false, false, false]) rfl rfl (by kernel_rfl) (by kernel_rfl) (by kernel_rfl) (by kernel_rfl) (by kernel_rfl) (fun _ _ _ h => h) (by kernel_rfl) (by assumption) ?hb11 ?rb11
          case hb11 => (intro w hSw; (try dsimp only at hSw); go_simp; all_goals with_reducible rfl)
          simp only [skipAct, Act.put, List.setIfInBounds_toArray, List.set_cons_zero, List.set_cons_succ]
          refine takeW (i := 12) (fuel := 15) (d := some 23) (v := ?vb12) (listed' := #[true, true, true, true, true, true, true, true, true, true, true, true, true, false, false, false, false, false, false, false, false, false, false, false, false, false, false, false]) rfl rfl (by kernel_rfl) (by kernel_rfl) (by kernel_rfl) (by kernel_rfl) (by kernel_rfl) (fun _ _ _ h => h) (by kernel_rfl) (by assumption) ?hb12 ?rb12
          case hb12 => (intro w hSw; (try dsimp only at hSw); go_simp; all_goals with_reducible rfl)
          simp only [skipAct, Act.put, List.setIfInBounds_toArray, List.set_cons_zero, List.set_cons_succ]
          refine takeW (i := 13) (fuel := 14) (d := some 24) (v := ?vb13) (listed' := #[true, true, true, true, true, true, true, true, true, true, true, true, true, true, false, false, false, false, false, false, false, false, false, false, false, false, false, false]) rfl rfl (by kernel_rfl) (by kernel_rfl) (by kernel_rfl) (by kernel_rfl) (by kernel_rfl) (fun _ _ _ h => h) (by kernel_rfl) (by assumption) ?hb13 ?rb13
          case hb13 => (intro w hSw; (try dsimp only at hSw); go_simp; all_goals with_reducible rfl)
          simp only [skipAct, Act.put, List.setIfInBounds_toArray, List.set_cons_zero, List.set_cons_succ]
          refine takeW (i := 14) (fuel := 13) (d := some 25) (v := ?vb14) (listed' := #[true, true, true, true, true, true, true, true, true, true, true, true, true, true, true, false, false, false, false, false, false, false, false, false, false, false, false, false]) rfl rfl (by kernel_rfl) (by kernel_rfl) (by kernel_rfl) (by kernel_rfl) (by kernel_rfl) (fun _ _ _ h => h) (by kernel_rfl) (by assumption) ?hb14 ?rb14
          case hb14 => (intro w hSw; (try dsimp only at hSw); go_simp; all_goals with_reducible rfl)
          simp only [skipAct, Act.put, List.setIfInBounds_toArray, List.set_cons_zero, List.set_cons_succ]
          refine takeW (i := 15) (fuel := 12) (d := some 26) (v := ?vb15) (listed' := #[true, true, true, true, true, true, true, true, true, true, true, true, true, true, true, true, false, false, false, false, false, false, false, false, false, false, false, false]) rfl rfl (by kernel_rfl) (by kernel_rfl) (by kernel_rfl) (by kernel_rfl) (by kernel_rfl) (fun _ _ _ h => h) (by kernel_rfl) (by assumption) ?hb15 ?rb15
          case hb15 => (intro w hSw; (try dsimp only at hSw); go_simp; all_goals with_reducible rfl)
          simp only [skipAct, Act.put, List.setIfInBounds_toArray, List.set_cons_zero, List.set_cons_succ]
          refine takeW (i := 16) (fuel := 11) (d := some 27) (v := ?vb16) (listed' := #[true, true, true, true, true, true, true, true, true, true, true, true, true, true, true, true, true, false, false, false, false, false, false, false, false, false, false, false]) rfl rfl (by kernel_rfl) (by kernel_rfl) (by kernel_rfl) (by kernel_rfl) (by kernel_rfl) (fun _ _ _ h => h) (by kernel_rfl) (by assumption) ?hb16 ?rb16
          case hb16 => (intro w hSw; (try dsimp only at hSw); go_simp; all_goals with_reducible rfl)
          simp only [skipAct, Act.put, List.setIfInBounds_toArray, List.set_cons_zero, List.set_cons_succ]
          refine takeS (fuel := 1) (listed' := #[true, true, true, true, true, true, true, true, true, true, true, true, true, true, true, true, true, true, true, true, true, true, true, true, true, true, true, false]) (by kernel_rfl) (fun _ _ _ _ h => h) (by assumption) [(17, 28), (18, 29), (19, 30), (20, 31), (21, 32), (22, 33), (23, 34), (24, 35), (25, 36), (26, 37)] (by kernel_rfl) (by kernel_rfl) (by kernel_rfl) ?_
          simp only [skipAct, Act.put, List.setIfInBounds_toArray, List.set_cons_zero, List.set_cons_succ]
          refine takeW (i := 27) (fuel := 0) (d := some 38) (v := ?vb27) (listed' := #[true, true, true, true, true, true, true, true, true, true, true, true, true, true, true, true, true, true, true, true, true, true, true, true, true, true, true, true]) rfl rfl (by kernel_rfl) (by kernel_rfl) (by kernel_rfl) (by kernel_rfl) (by kernel_rfl) (fun _ _ _ h => h) (by kernel_rfl) (by assumption) ?hb27 ?rb27
          case hb27 => (intro w hSw; (try dsimp only at hSw); go_simp; all_goals with_reducible rfl)
          simp only [skipAct, Act.put, List.setIfInBounds_toArray, List.set_cons_zero, List.set_cons_succ]
          refine wpAnyH_done (by kernel_rfl) ?_ _
          go_wp2
          go_ret
          exact ⟨by rw [← HOK.out, HF.out]; rfl, below2 hA hB (Nat.le_refl _)⟩
      · have Q2 := Lib.hid (show validD ks[j] = false by simpa using q2)
        have HF : Hid (Sh.fields ks m kids.length = false) := by
          show _ = _
          have : keysOk (ks.take (j + 1)) = false := by rw [HSN.out]; simp [keyOk, q2]
          unfold Sh.fields; rw [keysOk_take _ this]; rfl
        clear q2
        go_wp2_with fail
        refine wp_region_held_drew (S := (fun W => (W.cell? ⟨w.heap.size, 3, none⟩ = some (.slice (some ⟨b, o, none⟩) ks.length c1) ∧ W.cell? ⟨w.heap.size, 4, none⟩ = some (.int .i64 m) ∧ W.cell? ⟨w.heap.size, 5, none⟩ = some (.slice a2 kids.length c2)) ∧ W.cell? ⟨b, o + j, none⟩ = some (.string ⟨ks[j].toArray⟩))) (by kernel_rfl) ?_ (fun hHeld => ?_)
        · ((try dsimp only); (first | exact ⟨KB.out _ hB, KC.out _ hB⟩ | exact ⟨KB.out _ hB.drew, KC.out _ hB.drew⟩))
        refine takeW (i := 0) (fuel := 27) (d := some 11) (v := ?va0) (listed' := #[true, false, false, false, false, false, false, false, false, false, false, false, false, false, false, false, false, false, false, false, false, false, false, false, false, false, false, false]) rfl rfl (by kernel_rfl) (by kernel_rfl) (by kernel_rfl) (by kernel_rfl) (by kernel_rfl) (fun _ _ _ h => h) (by kernel_rfl) (by assumption) ?ha0 ?ra0
        case ha0 => (intro w hSw; (try dsimp only at hSw); go_simp; all_goals with_reducible rfl)
        simp only [skipAct, Act.put, List.setIfInBounds_toArray, List.set_cons_zero, List.set_cons_succ]
        refine takeW (i := 1) (fuel := 26) (d := some 12) (v := ?va1) (listed' := #[true, true, false, false, false, false, false, false, false, false, false, false, false, false, false, false, false, false, false, false, false, false, false, false, false, false, false, false]) rfl rfl (by kernel_rfl) (by kernel_rfl) (by kernel_rfl) (by kernel_rfl) (by kernel_rfl) (fun _ _ _ h => h) (by kernel_rfl) (by assumption) ?ha1 ?ra1
        case ha1 => (intro w hSw; (try dsimp only at hSw); go_simp; all_goals with_reducible rfl)
        simp only [skipAct, Act.put, List.setIfInBounds_toArray, List.set_cons_zero, List.set_cons_succ]
        refine takeW (i := 2) (fuel := 25) (d := some 13) (v := ?va2) (listed' := #[true, true, true, false, false, false, false, false, false, false, false, false, false, false, false, false, false, false, false, false, false, false, false, false, false, false, false, false]) rfl rfl (by kernel_rfl) (by kernel_rfl) (by kernel_rfl) (by kernel_rfl) (by kernel_rfl) (fun _ _ _ h => h) (by kernel_rfl) (by assumption) ?ha2 ?ra2
        case ha2 => (intro w hSw; (try dsimp only at hSw); go_simp; all_goals with_reducible rfl)
        simp only [skipAct, Act.put, List.setIfInBounds_toArray, List.set_cons_zero, List.set_cons_succ]
        refine takeW (i := 3) (fuel := 24) (d := some 14) (v := ?va3) (listed' := #[true, true, true, true, false, false, false, false, false, false, false, false, false, false, false, false, false, false, false, false, false, false, false, false, false, false, false, false]) rfl rfl (by kernel_rfl) (by kernel_rfl) (by kernel_rfl) (by kernel_rfl) (by kernel_rfl) (fun _ _ _ h => h) (by kernel_rfl) (by assumption) ?ha3 ?ra3
        case ha3 => (intro w hSw; (try dsimp only at hSw); go_simp; all_goals with_reducible rfl)
        simp only [skipAct, Act.put, List.setIfInBounds_toArray, List.set_cons_zero, List.set_cons_succ]
        refine takeW (i := 4) (fuel := 23) (d := some 15) (v := ?va4) (listed' := #[true, true, true, true, true, false, false, false, false, false, false, false, false, false, false, false, false, false, false, false, false, false, false, false, false, false, false, false]) rfl rfl (by kernel_rfl) (by kernel_rfl) (by kernel_rfl) (by kernel_rfl) (by kernel_rfl) (fun _ _ _ h => h) (by kernel_rfl) (by assumption) ?ha4 ?ra4
        case ha4 => (intro w hSw; (try dsimp only at hSw); go_simp; all_goals with_reducible rfl)
        simp only [skipAct, Act.put, List.setIfInBounds_toArray, List.set_cons_zero, List.set_cons_succ]
        refine takeC (i := 5) (fuel := 22) (d := some 16) (listed' := #[true, true, true, true, true, true, false, false, false, false, false, false, false, false, false, false, false, false, false, false, false, false, false, false, false, false, false, false]) rfl rfl (by kernel_rfl) (by kernel_rfl) (by kernel_rfl) (by kernel_rfl) (fun K hK => ?ca5)
        go_simp
        (go_at_call 90; with_reducible refine (HT1.out _).mono ?_; rw [Q2.out]; rintro e w1 ⟨rfl, hb1⟩; replace hB := below2 (by first | exact hB | exact hB.drew) hb1 (Nat.le_refl _))
        go_wp2_with fail
        refine hK.out _ _ ?ka5 (fun hHeld => ?na5)
        case ka5 => ((try dsimp only); (first | exact ⟨KB.out _ hB, KC.out _ hB⟩ | exact ⟨KB.out _ hB.drew, KC.out _ hB.drew⟩))
        clear hK K
        try simp only [skipAct, Act.put, List.setIfInBounds_toArray, List.set_cons_zero, List.set_cons_succ]
        refine takeW (i := 6) (fuel := 21) (d := some 17) (v := ?va6) (listed' := #[true, true, true, true, true, true, true, false, false, false, false, false, false, false, false, false, false, false, false, false, false, false, false, false, false, false, false, false]) rfl rfl (by kernel_rfl) (by kernel_rfl) (by kernel_rfl) (by kernel_rfl) (by kernel_rfl) (fun _ _ _ h => h) (by kernel_rfl) (by assumption) ?ha6 ?ra6
        case ha6 => (intro w hSw; (try dsimp only at hSw); go_simp; all_goals with_reducible rfl)
        simp only [skipAct, Act.put, List.setIfInBounds_toArray, List.set_cons_zero, List.set_cons_succ]
        refine takeW (i := 7) (fuel := 20) (d := some 18) (v := ?va7) (listed' := #[true, true, true, true, true, true, true, true, false, false, false, false, false, false, false, false, false, false, false, false, false, false, false, false, false, false, false, false]) rfl rfl (by kernel_rfl) (by kernel_rfl) (by kernel_rfl) (by kernel_rfl) (by kernel_rfl) (fun _ _ _ h => h) (by kernel_rfl) (by assumption) ?ha7 ?ra7
        case ha7 => (intro w hSw; (try dsimp only at hSw); go_simp; all_goals with_reducible rfl)
        simp only [skipAct, Act.put, List.setIfInBounds_toArray, List.set_cons_zero, List.set_cons_succ]
        refine takeS (fuel := 13) (listed' := #[true, true, true, true, true, true, true, true, true, true, true, true, true, true, true, false, false, false, false, false, false, false, false, false, false, false, false, false]) (by kernel_rfl) (fun _ _ _ _ h => h) (by assumption) [(8, 19), (9, 20), (10, 21), (11, 22), (12, 23), (13, 24), (14, 25)] (by kernel_rfl) (by kernel_rfl) (by kernel_rfl) ?_
        simp only [skipAct, Act.put, List.setIfInBounds_toArray, List.set_cons_zero, List.set_cons_succ]
        refine takeW (i := 15) (fuel := 12) (d := some 26) (v := ?va15) (listed' := #[true, true, true, true, true, true, true, true, true, true, true, true, true, true, true, true, false, false, false, false, false, false, false, false, false, false, false, false]) rfl rfl (by kernel_rfl) (by kernel_rfl) (by kernel_rfl) (by kernel_rfl) (by kernel_rfl) (fun _ _ _ h => h) (by kernel_rfl) (by assumption) ?ha15 ?ra15
        case ha15 => (intro w hSw; (try dsimp only at hSw); go_simp; all_goals with_reducible rfl)
        simp only [skipAct, Act.put, List.setIfInBounds_toArray, List.set_cons_zero, List.set_cons_succ]
        refine takeW (i := 16) (fuel := 11) (d := some 27) (v := ?va16) (listed' := #[true, true, true, true, true, true, true, true, true, true, true, true, true, true, true, true, true, false, false, false, false, false, false, false, false, false, false, false]) rfl rfl (by kernel_rfl) (by kernel_rfl) (by kernel_rfl) (by kernel_rfl) (by kernel_rfl) (fun _ _ _ h => h) (by kernel_rfl) (by assumption) ?ha16 ?ra16
        case ha16 => (intro w hSw; (try dsimp only at hSw); go_simp; all_goals with_reducible rfl)
        simp only [skipAct, Act.put, List.setIfInBounds_toArray, List.set_cons_zero, List.set_cons_succ]
        refine takeS (fuel := 1) (listed' := #[true, true, true, true, true, true, true, true, true, true, true, true, true, true, true, true, true, true, true, true, true, true, true, true, true, true, true, false]) (by kernel_rfl) (fun _ _ _ _ h => h) (by assumption) [(17, 28), (18, 29), (19, 30), (20, 31), (21, 32), (22, 33), (23, 34), (24, 35), (25, 36), (26, 37)] (by kernel_rfl) (by kernel_rfl) (by kernel_rfl) ?_
        simp only [skipAct, Act.put, List.setIfInBounds_toArray, List.set_cons_zero, List.set_cons_succ]
        refine takeW (i := 27) (fuel := 0) (d := some 38) (v := ?va27) (listed' := #[true, true, true, true, true, true, true, true, true, true, true, true, true, true, true, true, true, true, true, true, true, true, true, true, true, true, true, true]) rfl rfl (by kernel_rfl) (by kernel_rfl) (by kernel_rfl) (by kernel_rfl) (by kernel_rfl) (fun _ _ _ h => h) (by kernel_rfl) (by assumption) ?ha27 ?ra27
        case ha27 => (intro w hSw; (try dsimp only at hSw); go_simp; all_goals with_reducible rfl)
        simp only [skipAct, Act.put, List.setIfInBounds_toArray, List.set_cons_zero, List.set_cons_succ]
        refine wpAnyH_done (by kernel_rfl) ?_ _
        go_wp2
        go_ret
        exact ⟨by rw [← HOK.out, HF.out]; rfl, below2 hA hB (Nat.le_refl _)⟩
    · obtain rfl : j = ks.length := by omega
      have HK := HKO.out
      rw [List.take_length] at HK
      have HF : Hid (ok = (decide (kids.length = ks.length) && (decide (0 ≤ m) && decide (m ≤ ks.length)))) := by
        show _ = _; rw [← HOK.out]; unfold Sh.fields; rw [HK]; rfl
      clear HK
      have hbelw := below2 hA hbel (Nat.le_refl _)
      by_cases q : kids.length = ks.length
      · have q' : ((ks.length : Int) == kids.length) = true := by simp [q]
        have Q := Lib.hid q; clear q
        go_wp2_with (go_at_call 88; refine (l01In_any _ _ _ _).mono ?_; rintro e w1 ⟨rfl, rfl⟩)
        go_ret
        exact ⟨by rw [HF.out, decide_eq_true Q.out]; rfl, hbelw⟩
      · have q' : ((ks.length : Int) == kids.length) = false := by simp; omega
        have Q := Lib.hid q; clear q
        go_wp2_with (go_at_call 88; refine (l01In_any _ _ _ _).mono ?_; rintro e w1 ⟨rfl, rfl⟩)
        go_ret
        exact ⟨by rw [HF.out, decide_eq_false Q.out]; rfl, hbelw⟩

end Go.Proofs.YtpknmldpdoadgaaDoor

/- When a shape is right but for its kids: the reference's l15Own. -/
namespace Go.Proofs.YtpknmldpdoadgaaDoor
open Go.RowKit
open Go.Lib (validD)

set_option maxHeartbeats 2000000 in
set_option maxRecDepth 10000 in
theorem l15Own_any (x : Sh) (cs : List Value) (w : World) (h : Rd w x.d cs) (hwf : x.wf) (hbk : x.bulk ≤ 4294967295) :
    Calls Tryd.prog 61 #[.agg cs.toArray] w fun e w' => e = .returned (.bool x.self) ∧ Below w.heap.size w w' := by
  have HF := Lib.hid (fun w1 (hb : Below w.heap.size w w1) => l15Keys_any x cs w1 (h.below hb) hwf hbk)
  obtain ⟨k, l, hi, ks, m, kids, v1, v2, rfl, rfl, hk, hkids⟩ := Sh.lay h
  obtain ⟨a1, c1, rfl, _⟩ := hk.strs
  obtain ⟨a2, c2, rfl⟩ := Rd.sl_form hkids
  rw [Sh.ds_map, List.length_map]
  simp only [Sh.ds_map, List.length_map] at HF
  have hA := fun o => (Below.refl w.heap.size w).alloc (Nat.le_refl _) o
  clear hk hkids h hwf hbk
  obtain ⟨ok, hok⟩ : ∃ ok, Sh.self (.mk k l hi ks m kids) = ok := ⟨_, rfl⟩
  rw [hok]
  have HOK := Lib.hid hok; clear hok
  by_cases k8 : k = 8
  · subst k8
    by_cases hl : l = 0
    · subst hl
      by_cases hhi : hi = 0
      · subst hhi
        have H : Hid (ok = Sh.fields ks m kids.length) := by show _ = _; rw [← HOK.out]; simp [Sh.self]
        clear HOK hA
        by_cases hks : ks = []
        · subst hks
          simp only [List.length_nil] at HF ⊢
          go_enter Tryd.func61, Tryd.ntmps61
          go_wp2_with (go_at_call 82; refine (HF.out _ ((Below.refl _ _).alloc (Nat.le_refl _) _)).mono ?_; rintro e w1 ⟨rfl, hb1⟩)
          all_goals (go_ret; exact ⟨by rw [H.out]; rfl, below2 ((Below.refl _ _).alloc (Nat.le_refl _) _) (by assumption) (Nat.le_refl _)⟩)
        · have gks : ((ks.length : Int) == 0) = false := by simpa using hks
          have HKS := Lib.hid hks; clear hks
          go_enter Tryd.func61, Tryd.ntmps61
          go_wp2_with (go_at_call 82; refine (HF.out _ ((Below.refl _ _).alloc (Nat.le_refl _) _)).mono ?_; rintro e w1 ⟨rfl, hb1⟩)
          all_goals (go_ret; exact ⟨by rw [H.out]; rfl, below2 ((Below.refl _ _).alloc (Nat.le_refl _) _) (by assumption) (Nat.le_refl _)⟩)
      · have ghi : (hi == 0) = false := by simpa using hhi
        have H : Hid (ok = false) := by show _ = _; rw [← HOK.out]; simp [Sh.self, hhi]
        clear HOK
        go_enter Tryd.func61, Tryd.ntmps61
        go_wp2
        all_goals (go_ret; exact ⟨by rw [H.out]; rfl, hA _⟩)
    · have gl : (l == 0) = false := by simpa using hl
      have H : Hid (ok = false) := by show _ = _; rw [← HOK.out]; simp [Sh.self, hl]
      clear HOK
      go_enter Tryd.func61, Tryd.ntmps61
      go_wp2
      all_goals (go_ret; exact ⟨by rw [H.out]; rfl, hA _⟩)
  by_cases k7 : k = 7
  · subst k7
    by_cases hks : ks = []
    · subst hks
      by_cases hm : m = 0
      · subst hm
        have H : Hid (ok = decide (kids.length = 1)) := by show _ = _; rw [← HOK.out]; simp [Sh.self]
        clear HOK
        go_enter Tryd.func61, Tryd.ntmps61
        go_wp2
        all_goals (go_ret; exact ⟨by rw [H.out]; exact ret_bool (by rw [Bool.eq_iff_iff]; simp <;> omega), hA _⟩)
      · have gm : (m == 0) = false := by simpa using hm
        have H : Hid (ok = false) := by show _ = _; rw [← HOK.out]; simp [Sh.self, hm]
        clear HOK
        go_enter Tryd.func61, Tryd.ntmps61
        go_wp2
        all_goals (go_ret; exact ⟨by rw [H.out]; rfl, hA _⟩)
    · have gks : ((ks.length : Int) == 0) = false := by simpa using hks
      have H : Hid (ok = false) := by show _ = _; rw [← HOK.out]; simp [Sh.self, hks]
      clear HOK
      go_enter Tryd.func61, Tryd.ntmps61
      go_wp2
      all_goals (go_ret; exact ⟨by rw [H.out]; rfl, hA _⟩)
  by_cases k9 : k = 9
  · subst k9
    by_cases hl : l = 0
    · subst hl
      by_cases hhi : hi = 0
      · subst hhi
        by_cases hks : ks = []
        · subst hks
          by_cases hm : m = 0
          · subst hm
            have H : Hid (ok = decide (2 ≤ kids.length)) := by show _ = _; rw [← HOK.out]; simp [Sh.self]
            clear HOK
            go_enter Tryd.func61, Tryd.ntmps61
            go_wp2
            all_goals (go_ret; exact ⟨by rw [H.out]; exact ret_bool (by rw [Bool.eq_iff_iff]; simp <;> omega), hA _⟩)
          · have gm : (m == 0) = false := by simpa using hm
            have H : Hid (ok = false) := by show _ = _; rw [← HOK.out]; simp [Sh.self, hm]
            clear HOK
            go_enter Tryd.func61, Tryd.ntmps61
            go_wp2
            all_goals (go_ret; exact ⟨by rw [H.out]; rfl, hA _⟩)
        · have gks : ((ks.length : Int) == 0) = false := by simpa using hks
          have H : Hid (ok = false) := by show _ = _; rw [← HOK.out]; simp [Sh.self, hks]
          clear HOK
          go_enter Tryd.func61, Tryd.ntmps61
          go_wp2
          all_goals (go_ret; exact ⟨by rw [H.out]; rfl, hA _⟩)
      · have ghi : (hi == 0) = false := by simpa using hhi
        have H : Hid (ok = false) := by show _ = _; rw [← HOK.out]; simp [Sh.self, hhi]
        clear HOK
        go_enter Tryd.func61, Tryd.ntmps61
        go_wp2
        all_goals (go_ret; exact ⟨by rw [H.out]; rfl, hA _⟩)
    · have gl : (l == 0) = false := by simpa using hl
      have H : Hid (ok = false) := by show _ = _; rw [← HOK.out]; simp [Sh.self, hl]
      clear HOK
      go_enter Tryd.func61, Tryd.ntmps61
      go_wp2
      all_goals (go_ret; exact ⟨by rw [H.out]; rfl, hA _⟩)
  by_cases k3 : k = 3
  · subst k3
    by_cases hks : ks = []
    · subst hks
      by_cases hm : m = 0
      · subst hm
        have H : Hid (ok = decide (kids = [])) := by show _ = _; rw [← HOK.out]; simp [Sh.self]
        clear HOK
        go_enter Tryd.func61, Tryd.ntmps61
        go_wp2
        all_goals (go_ret; exact ⟨by rw [H.out]; exact ret_bool (by rw [Bool.eq_iff_iff]; simp <;> omega), hA _⟩)
      · have gm : (m == 0) = false := by simpa using hm
        have H : Hid (ok = false) := by show _ = _; rw [← HOK.out]; simp [Sh.self, hm]
        clear HOK
        go_enter Tryd.func61, Tryd.ntmps61
        go_wp2
        all_goals (go_ret; exact ⟨by rw [H.out]; rfl, hA _⟩)
    · have gks : ((ks.length : Int) == 0) = false := by simpa using hks
      have H : Hid (ok = false) := by show _ = _; rw [← HOK.out]; simp [Sh.self, hks]
      clear HOK
      go_enter Tryd.func61, Tryd.ntmps61
      go_wp2
      all_goals (go_ret; exact ⟨by rw [H.out]; rfl, hA _⟩)
  by_cases k5 : k = 5
  · subst k5
    by_cases hks : ks = []
    · subst hks
      by_cases hm : m = 0
      · subst hm
        have H : Hid (ok = decide (kids = [])) := by show _ = _; rw [← HOK.out]; simp [Sh.self]
        clear HOK
        go_enter Tryd.func61, Tryd.ntmps61
        go_wp2
        all_goals (go_ret; exact ⟨by rw [H.out]; exact ret_bool (by rw [Bool.eq_iff_iff]; simp <;> omega), hA _⟩)
      · have gm : (m == 0) = false := by simpa using hm
        have H : Hid (ok = false) := by show _ = _; rw [← HOK.out]; simp [Sh.self, hm]
        clear HOK
        go_enter Tryd.func61, Tryd.ntmps61
        go_wp2
        all_goals (go_ret; exact ⟨by rw [H.out]; rfl, hA _⟩)
    · have gks : ((ks.length : Int) == 0) = false := by simpa using hks
      have H : Hid (ok = false) := by show _ = _; rw [← HOK.out]; simp [Sh.self, hks]
      clear HOK
      go_enter Tryd.func61, Tryd.ntmps61
      go_wp2
      all_goals (go_ret; exact ⟨by rw [H.out]; rfl, hA _⟩)
  by_cases k6 : k = 6
  · subst k6
    by_cases hks : ks = []
    · subst hks
      by_cases hm : m = 0
      · subst hm
        have H : Hid (ok = decide (kids = [])) := by show _ = _; rw [← HOK.out]; simp [Sh.self]
        clear HOK
        go_enter Tryd.func61, Tryd.ntmps61
        go_wp2
        all_goals (go_ret; exact ⟨by rw [H.out]; exact ret_bool (by rw [Bool.eq_iff_iff]; simp <;> omega), hA _⟩)
      · have gm : (m == 0) = false := by simpa using hm
        have H : Hid (ok = false) := by show _ = _; rw [← HOK.out]; simp [Sh.self, hm]
        clear HOK
        go_enter Tryd.func61, Tryd.ntmps61
        go_wp2
        all_goals (go_ret; exact ⟨by rw [H.out]; rfl, hA _⟩)
    · have gks : ((ks.length : Int) == 0) = false := by simpa using hks
      have H : Hid (ok = false) := by show _ = _; rw [← HOK.out]; simp [Sh.self, hks]
      clear HOK
      go_enter Tryd.func61, Tryd.ntmps61
      go_wp2
      all_goals (go_ret; exact ⟨by rw [H.out]; rfl, hA _⟩)
  by_cases k0 : k = 0
  · subst k0
    by_cases hl : l = 0
    · subst hl
      by_cases hhi : hi = 0
      · subst hhi
        by_cases hks : ks = []
        · subst hks
          by_cases hm : m = 0
          · subst hm
            have H : Hid (ok = decide (kids = [])) := by show _ = _; rw [← HOK.out]; simp [Sh.self]
            clear HOK
            go_enter Tryd.func61, Tryd.ntmps61
            go_wp2
            all_goals (go_ret; exact ⟨by rw [H.out]; exact ret_bool (by rw [Bool.eq_iff_iff]; simp <;> omega), hA _⟩)
          · have gm : (m == 0) = false := by simpa using hm
            have H : Hid (ok = false) := by show _ = _; rw [← HOK.out]; simp [Sh.self, hm]
            clear HOK
            go_enter Tryd.func61, Tryd.ntmps61
            go_wp2
            all_goals (go_ret; exact ⟨by rw [H.out]; rfl, hA _⟩)
        · have gks : ((ks.length : Int) == 0) = false := by simpa using hks
          have H : Hid (ok = false) := by show _ = _; rw [← HOK.out]; simp [Sh.self, hks]
          clear HOK
          go_enter Tryd.func61, Tryd.ntmps61
          go_wp2
          all_goals (go_ret; exact ⟨by rw [H.out]; rfl, hA _⟩)
      · have ghi : (hi == 0) = false := by simpa using hhi
        have H : Hid (ok = false) := by show _ = _; rw [← HOK.out]; simp [Sh.self, hhi]
        clear HOK
        go_enter Tryd.func61, Tryd.ntmps61
        go_wp2
        all_goals (go_ret; exact ⟨by rw [H.out]; rfl, hA _⟩)
    · have gl : (l == 0) = false := by simpa using hl
      have H : Hid (ok = false) := by show _ = _; rw [← HOK.out]; simp [Sh.self, hl]
      clear HOK
      go_enter Tryd.func61, Tryd.ntmps61
      go_wp2
      all_goals (go_ret; exact ⟨by rw [H.out]; rfl, hA _⟩)
  by_cases k1 : k = 1
  · subst k1
    by_cases hl : l = 0
    · subst hl
      by_cases hhi : hi = 0
      · subst hhi
        by_cases hks : ks = []
        · subst hks
          by_cases hm : m = 0
          · subst hm
            have H : Hid (ok = decide (kids = [])) := by show _ = _; rw [← HOK.out]; simp [Sh.self]
            clear HOK
            go_enter Tryd.func61, Tryd.ntmps61
            go_wp2
            all_goals (go_ret; exact ⟨by rw [H.out]; exact ret_bool (by rw [Bool.eq_iff_iff]; simp <;> omega), hA _⟩)
          · have gm : (m == 0) = false := by simpa using hm
            have H : Hid (ok = false) := by show _ = _; rw [← HOK.out]; simp [Sh.self, hm]
            clear HOK
            go_enter Tryd.func61, Tryd.ntmps61
            go_wp2
            all_goals (go_ret; exact ⟨by rw [H.out]; rfl, hA _⟩)
        · have gks : ((ks.length : Int) == 0) = false := by simpa using hks
          have H : Hid (ok = false) := by show _ = _; rw [← HOK.out]; simp [Sh.self, hks]
          clear HOK
          go_enter Tryd.func61, Tryd.ntmps61
          go_wp2
          all_goals (go_ret; exact ⟨by rw [H.out]; rfl, hA _⟩)
      · have ghi : (hi == 0) = false := by simpa using hhi
        have H : Hid (ok = false) := by show _ = _; rw [← HOK.out]; simp [Sh.self, hhi]
        clear HOK
        go_enter Tryd.func61, Tryd.ntmps61
        go_wp2
        all_goals (go_ret; exact ⟨by rw [H.out]; rfl, hA _⟩)
    · have gl : (l == 0) = false := by simpa using hl
      have H : Hid (ok = false) := by show _ = _; rw [← HOK.out]; simp [Sh.self, hl]
      clear HOK
      go_enter Tryd.func61, Tryd.ntmps61
      go_wp2
      all_goals (go_ret; exact ⟨by rw [H.out]; rfl, hA _⟩)
  by_cases k2 : k = 2
  · subst k2
    by_cases hl : l = 0
    · subst hl
      by_cases hhi : hi = 0
      · subst hhi
        by_cases hks : ks = []
        · subst hks
          by_cases hm : m = 0
          · subst hm
            have H : Hid (ok = decide (kids = [])) := by show _ = _; rw [← HOK.out]; simp [Sh.self]
            clear HOK
            go_enter Tryd.func61, Tryd.ntmps61
            go_wp2
            all_goals (go_ret; exact ⟨by rw [H.out]; exact ret_bool (by rw [Bool.eq_iff_iff]; simp <;> omega), hA _⟩)
          · have gm : (m == 0) = false := by simpa using hm
            have H : Hid (ok = false) := by show _ = _; rw [← HOK.out]; simp [Sh.self, hm]
            clear HOK
            go_enter Tryd.func61, Tryd.ntmps61
            go_wp2
            all_goals (go_ret; exact ⟨by rw [H.out]; rfl, hA _⟩)
        · have gks : ((ks.length : Int) == 0) = false := by simpa using hks
          have H : Hid (ok = false) := by show _ = _; rw [← HOK.out]; simp [Sh.self, hks]
          clear HOK
          go_enter Tryd.func61, Tryd.ntmps61
          go_wp2
          all_goals (go_ret; exact ⟨by rw [H.out]; rfl, hA _⟩)
      · have ghi : (hi == 0) = false := by simpa using hhi
        have H : Hid (ok = false) := by show _ = _; rw [← HOK.out]; simp [Sh.self, hhi]
        clear HOK
        go_enter Tryd.func61, Tryd.ntmps61
        go_wp2
        all_goals (go_ret; exact ⟨by rw [H.out]; rfl, hA _⟩)
    · have gl : (l == 0) = false := by simpa using hl
      have H : Hid (ok = false) := by show _ = _; rw [← HOK.out]; simp [Sh.self, hl]
      clear HOK
      go_enter Tryd.func61, Tryd.ntmps61
      go_wp2
      all_goals (go_ret; exact ⟨by rw [H.out]; rfl, hA _⟩)
  by_cases k4 : k = 4
  · subst k4
    by_cases hl : l = 0
    · subst hl
      by_cases hhi : hi = 0
      · subst hhi
        by_cases hks : ks = []
        · subst hks
          by_cases hm : m = 0
          · subst hm
            have H : Hid (ok = decide (kids = [])) := by show _ = _; rw [← HOK.out]; simp [Sh.self]
            clear HOK
            go_enter Tryd.func61, Tryd.ntmps61
            go_wp2
            all_goals (go_ret; exact ⟨by rw [H.out]; exact ret_bool (by rw [Bool.eq_iff_iff]; simp <;> omega), hA _⟩)
          · have gm : (m == 0) = false := by simpa using hm
            have H : Hid (ok = false) := by show _ = _; rw [← HOK.out]; simp [Sh.self, hm]
            clear HOK
            go_enter Tryd.func61, Tryd.ntmps61
            go_wp2
            all_goals (go_ret; exact ⟨by rw [H.out]; rfl, hA _⟩)
        · have gks : ((ks.length : Int) == 0) = false := by simpa using hks
          have H : Hid (ok = false) := by show _ = _; rw [← HOK.out]; simp [Sh.self, hks]
          clear HOK
          go_enter Tryd.func61, Tryd.ntmps61
          go_wp2
          all_goals (go_ret; exact ⟨by rw [H.out]; rfl, hA _⟩)
      · have ghi : (hi == 0) = false := by simpa using hhi
        have H : Hid (ok = false) := by show _ = _; rw [← HOK.out]; simp [Sh.self, hhi]
        clear HOK
        go_enter Tryd.func61, Tryd.ntmps61
        go_wp2
        all_goals (go_ret; exact ⟨by rw [H.out]; rfl, hA _⟩)
    · have gl : (l == 0) = false := by simpa using hl
      have H : Hid (ok = false) := by show _ = _; rw [← HOK.out]; simp [Sh.self, hl]
      clear HOK
      go_enter Tryd.func61, Tryd.ntmps61
      go_wp2
      all_goals (go_ret; exact ⟨by rw [H.out]; rfl, hA _⟩)
  have H : Hid (ok = false) := by show _ = _; rw [← HOK.out]; simp [Sh.self, k0, k1, k2, k3, k4, k5, k6, k7, k8, k9]
  have B0 : (k == 0) = false := by simpa using k0
  have B1 : (k == 1) = false := by simpa using k1
  have B2 : (k == 2) = false := by simpa using k2
  have B3 : (k == 3) = false := by simpa using k3
  have B4 : (k == 4) = false := by simpa using k4
  have B5 : (k == 5) = false := by simpa using k5
  have B6 : (k == 6) = false := by simpa using k6
  have B7 : (k == 7) = false := by simpa using k7
  have B8 : (k == 8) = false := by simpa using k8
  have B9 : (k == 9) = false := by simpa using k9
  clear HOK k0 k1 k2 k3 k4 k5 k6 k7 k8 k9
  go_enter Tryd.func61, Tryd.ntmps61
  go_wp2
  all_goals (go_ret; exact ⟨by rw [H.out]; rfl, hA _⟩)
end Go.Proofs.YtpknmldpdoadgaaDoor

/- When a shape is right: the reference's l15Right, l15Many and ShapeOk. -/
namespace Go.Proofs.YtpknmldpdoadgaaDoor
open Go.RowKit
open Go.Lib (validD)

def RtA (n : Nat) : Prop := ∀ (x : Sh) (cs : List Value) (d : Int) (w : World), x.nodes ≤ n → Rd w x.d cs → x.wf → x.bulk ≤ 4294967295 → -4611686018427387904 + x.nodes ≤ d → d ≤ 1000 →
  Calls Tryd.prog 41 #[.agg cs.toArray, .int .i64 d] w fun e w' => e = .returned (.bool (Sh.right d x)) ∧ Below w.heap.size w w'

theorem Sh.rights_false {d : Int} {xs : List Sh} (k : Nat) (hk : k < xs.length) (h : Sh.right d xs[k] = false) : Sh.rights d xs = false := by
  rw [Sh.rights_all]; apply Bool.eq_false_iff.2; intro hh
  rw [List.all_eq_true] at hh
  have := hh xs[k] (List.getElem_mem hk); rw [h] at this; cases this
theorem Sh.rights_snoc {d : Int} {xs : List Sh} (k : Nat) (hk : k < xs.length) (h : Sh.rights d (xs.take k) = true) (h2 : Sh.right d xs[k] = true) : Sh.rights d (xs.take (k + 1)) = true := by
  rw [List.take_succ_eq_append_getElem hk, Sh.rights_all, List.all_append]; rw [Sh.rights_all] at h; rw [h]; simp [h2]
theorem Sh.nodes_split (xs : List Sh) (k : Nat) (hk : k < xs.length) : Sh.nodess (xs.take (k + 1)) = Sh.nodess (xs.take k) + xs[k].nodes := by
  rw [List.take_succ_eq_append_getElem hk]
  have hn : ∀ (ls : List Sh) (x : Sh), Sh.nodess (ls ++ [x]) = Sh.nodess ls + x.nodes := by
    intro ls x; induction ls with
    | nil => simp [Sh.nodess]
    | cons a ls ih => simp only [List.cons_append, Sh.nodess, ih]; omega
  exact hn _ _
theorem Sh.nodess_take : ∀ (xs : List Sh) (k : Nat), Sh.nodess (xs.take k) ≤ Sh.nodess xs
  | [], k => by simp [Sh.nodess]
  | x :: xs, 0 => by simp [Sh.nodess]
  | x :: xs, k + 1 => by have := Sh.nodess_take xs k; simp only [List.take_succ_cons, Sh.nodess]; omega
mutual
theorem Sh.nodes_bulk : ∀ x : Sh, x.nodes ≤ x.bulk + 1
  | .mk _ _ _ ks _ kids => by have := Sh.nodess_bulks kids; simp only [Sh.nodes, Sh.bulk]; omega
theorem Sh.nodess_bulks : ∀ xs : List Sh, Sh.nodess xs ≤ xs.length + Sh.bulks xs
  | [] => by simp [Sh.nodess]
  | x :: xs => by have := Sh.nodes_bulk x; have := Sh.nodess_bulks xs; simp only [Sh.nodess, Sh.bulks, List.length_cons]; omega
end

set_option maxHeartbeats 2000000 in
set_option maxRecDepth 10000 in
theorem RtA_of {n : Nat} (hA : RtA n) : RtA (n + 1) := by
  intro x cs d w hn h hwf hbk hd1 hd2
  have HO := Lib.hid (fun w1 (hb : Below w.heap.size w w1) => l15Own_any x cs w1 (h.below hb) hwf hbk)
  obtain ⟨k, l, hi, ks, m, kids, v1, v2, rfl, rfl, hk, hkids⟩ := Sh.lay h
  have hnk : Sh.nodess kids ≤ n := by simp only [Sh.nodes] at hn; omega
  have hkw : Sh.wfs kids := hwf.2.2.2.2.2.2
  have hkb : kids.length + Sh.bulks kids ≤ 4294967295 := by simp only [Sh.bulk] at hbk; omega
  have hdn : -4611686018427387904 + (Sh.nodess kids : Int) + 1 ≤ d := by simp only [Sh.nodes] at hd1; omega
  obtain ⟨a1, c1, rfl⟩ := Rd.sl_form hk
  obtain ⟨a2, c2, rfl, hg⟩ := hkids.shapes
  simp only [List.length_map] at HO h ⊢
  obtain ⟨ok, hok⟩ : ∃ ok, Sh.right d (.mk k l hi ks m kids) = ok := ⟨_, rfl⟩
  rw [hok]
  have HOK := Lib.hid hok; clear hok
  obtain ⟨W0, hW0⟩ : ∃ W0, W0 = w.alloc (.cells #[.int .i64 k, .int .i64 l, .int .i64 hi, .slice a1 ks.length c1, .int .i64 m, .slice a2 kids.length c2] 29) := ⟨_, rfl⟩
  have HW := Lib.hid hW0
  have hA0 : Below w.heap.size w W0 := by rw [hW0]; exact (Below.refl _ _).alloc (Nat.le_refl _) _
  have hz : w.heap.size < W0.heap.size := by rw [hW0]; simp
  have KB : Hid (∀ W, Below W0.heap.size W0 W → W.cell? ⟨w.heap.size, 0, none⟩ = some (.int .i64 k) ∧ W.cell? ⟨w.heap.size, 1, none⟩ = some (.int .i64 l) ∧ W.cell? ⟨w.heap.size, 2, none⟩ = some (.int .i64 hi) ∧ W.cell? ⟨w.heap.size, 3, none⟩ = some (.slice a1 ks.length c1) ∧ W.cell? ⟨w.heap.size, 4, none⟩ = some (.int .i64 m) ∧ W.cell? ⟨w.heap.size, 5, none⟩ = some (.slice a2 kids.length c2)) := by
    intro W hb
    obtain ⟨hc, _⟩ := bcell hb
    simp only [hc _ _ hz]; subst hW0; simp
  clear hW0 h hk hkids hwf hbk
  go_enter Tryd.func41, Tryd.ntmps41
  go_wp2
  rw [← HW.out]
  go_loopw [5] (fun i wr => ∃ (j : Nat), j ≤ kids.length ∧ i = .int .i64 j ∧ Sh.rights (d - 1) (kids.take j) = true ∧ Below W0.heap.size W0 wr) (fun i _ => kids.length - (intOf i).toNat)
  case atStart => exact ⟨0, Nat.zero_le _, rfl, by simp [Sh.rights], Below.refl _ _⟩
  case round =>
    obtain ⟨j, hj, rfl, hr, hbel⟩ := hrel
    have HR := Lib.hid hr; clear hr
    obtain ⟨f0, f1, f2, f3, f4, f5⟩ := KB.out _ hbel
    have hbw := below2 hA0 hbel (Nat.le_refl _)
    by_cases hlt : j < kids.length
    · obtain ⟨_, _, b, o, rfl, hb, hcell⟩ := hg (by intro e; rw [e] at hlt; simp at hlt)
      obtain ⟨v0, v1, v2, v3, v4, v5, hr, d0, d1, d2, d3, d4, d5⟩ := hcell j hlt
      clear hcell hg
      obtain ⟨k1, k2, k3, a4, n4, m4, k5, a6, n6, m6, hcs⟩ := Sh.form hr
      simp only [List.cons.injEq, and_true] at hcs
      obtain ⟨rfl, rfl, rfl, rfl, rfl, rfl⟩ := hcs
      have hbc := (bcell hbw).1
      rw [← hbc _ _ hb] at d0 d1 d2 d3 d4 d5
      clear hbc
      have hi1 : (0 : Int) ≤ j := by omega
      have hi3 : (j : Int) < kids.length := by omega
      have hn1 := Sh.nodes_get kids j hlt
      have HC := Lib.hid (hA kids[j] _ (d - 1) wr (Nat.le_trans hn1 hnk) (hr.below hbw) (Sh.wfs_get hkw j hlt) (Sh.bulk_get' hkb j hlt) (by omega) (by omega))
      cases hv : Sh.right (d - 1) kids[j] with
      | true =>
        have HV := Lib.hid hv
        have HS := Lib.hid (Sh.rights_snoc j hlt HR.out hv)
        clear hv
        go_wp2_with (go_at_call 41; refine HC.out.mono ?_; rw [HV.out]; rintro e w1 ⟨rfl, hb1⟩)
        go_roundw
        case rel => exact ⟨j + 1, by omega, by go_num, HS.out, below2 hbel hb1 (Nat.le_refl _)⟩
        case measure => simp [intOf]; omega
      | false =>
        have HV := Lib.hid hv
        have HF := Lib.hid (show ok = false by rw [← HOK.out]; simp only [Sh.right]; rw [Sh.rights_false j hlt hv]; rfl)
        clear hv
        go_wp2_with (go_at_call 41; refine HC.out.mono ?_; rw [HV.out]; rintro e w1 ⟨rfl, hb1⟩)
        go_ret
        exact ⟨by rw [HF.out]; rfl, below2 hbw hb1 (Nat.le_refl _)⟩
    · obtain rfl : j = kids.length := by omega
      have h1 := HR.out
      rw [List.take_length] at h1
      have HF := Lib.hid (show ok = (decide (0 ≤ d) && Sh.self (.mk k l hi ks m kids)) by rw [← HOK.out]; simp only [Sh.right]; rw [h1]; rfl)
      clear h1
      by_cases hd0 : 0 ≤ d
      · have D0 := Lib.hid (decide_eq_true hd0)
        go_wp2_with (go_at_call 61; refine (HO.out _ hbw).mono ?_; rintro e w1 ⟨rfl, hb1⟩)
        go_ret
        exact ⟨by rw [HF.out, D0.out]; rfl, below2 hbw hb1 (Nat.le_refl _)⟩
      · have D0 := Lib.hid (decide_eq_false hd0)
        go_wp2
        go_ret
        exact ⟨by rw [HF.out, D0.out]; rfl, hbw⟩
theorem Rt_all : ∀ n, RtA n
  | 0 => fun x cs d w hn => absurd x.nodes_pos (by omega)
  | n + 1 => RtA_of (Rt_all n)

def MnA (n : Nat) : Prop := ∀ (x : Sh) (cs : List Value) (w : World), x.nodes ≤ n → Rd w x.d cs → x.bulk ≤ 4294967295 →
  Calls Tryd.prog 42 #[.agg cs.toArray] w fun e w' => e = .returned (.int .i64 (x.nodes : Nat)) ∧ Below w.heap.size w w'
set_option maxHeartbeats 2000000 in
set_option maxRecDepth 10000 in
theorem MnA_of {n : Nat} (hA : MnA n) : MnA (n + 1) := by
  intro x cs w hn h hbk
  obtain ⟨k, l, hi, ks, m, kids, v1, v2, rfl, rfl, hk, hkids⟩ := Sh.lay h
  have hnk : Sh.nodess kids ≤ n := by simp only [Sh.nodes] at hn; omega
  have hkb : kids.length + Sh.bulks kids ≤ 4294967295 := by simp only [Sh.bulk] at hbk; omega
  have hnb := Sh.nodess_bulks kids
  obtain ⟨a1, c1, rfl⟩ := Rd.sl_form hk
  obtain ⟨a2, c2, rfl, hg⟩ := hkids.shapes
  simp only [List.length_map]
  obtain ⟨W0, hW0⟩ : ∃ W0, W0 = w.alloc (.cells #[.int .i64 k, .int .i64 l, .int .i64 hi, .slice a1 ks.length c1, .int .i64 m, .slice a2 kids.length c2] 29) := ⟨_, rfl⟩
  have HW := Lib.hid hW0
  have hA0 : Below w.heap.size w W0 := by rw [hW0]; exact (Below.refl _ _).alloc (Nat.le_refl _) _
  have hz : w.heap.size < W0.heap.size := by rw [hW0]; simp
  have KB : Hid (∀ W, Below W0.heap.size W0 W → W.cell? ⟨w.heap.size, 5, none⟩ = some (.slice a2 kids.length c2)) := by
    intro W hb
    obtain ⟨hc, _⟩ := bcell hb
    simp only [hc _ _ hz]; subst hW0; simp
  clear hW0 h hk hkids hbk
  go_enter Tryd.func42, Tryd.ntmps42
  go_wp2
  rw [← HW.out]
  go_loopw [3, 4] (fun x i wr => ∃ (j : Nat), j ≤ kids.length ∧ i = .int .i64 j ∧ x = .int .i64 (1 + Sh.nodess (kids.take j) : Nat) ∧ Below W0.heap.size W0 wr) (fun _ i _ => kids.length - (intOf i).toNat)
  case atStart => exact ⟨0, Nat.zero_le _, rfl, by simp [Sh.nodess], Below.refl _ _⟩
  case round =>
    obtain ⟨j, hj, rfl, rfl, hbel⟩ := hrel
    have f5 := KB.out _ hbel
    have hbw := below2 hA0 hbel (Nat.le_refl _)
    by_cases hlt : j < kids.length
    · obtain ⟨_, _, b, o, rfl, hb, hcell⟩ := hg (by intro e; rw [e] at hlt; simp at hlt)
      obtain ⟨v0, v1, v2, v3, v4, v5, hr, d0, d1, d2, d3, d4, d5⟩ := hcell j hlt
      clear hcell hg
      obtain ⟨k1, k2, k3, a4, n4, m4, k5, a6, n6, m6, hcs⟩ := Sh.form hr
      simp only [List.cons.injEq, and_true] at hcs
      obtain ⟨rfl, rfl, rfl, rfl, rfl, rfl⟩ := hcs
      have hbc := (bcell hbw).1
      rw [← hbc _ _ hb] at d0 d1 d2 d3 d4 d5
      clear hbc
      have hi1 : (0 : Int) ≤ j := by omega
      have hi3 : (j : Int) < kids.length := by omega
      have hn1 := Sh.nodes_get kids j hlt
      have HC := Lib.hid (hA kids[j] _ wr (Nat.le_trans hn1 hnk) (hr.below hbw) (Sh.bulk_get' hkb j hlt))
      have HS := Lib.hid (Sh.nodes_split kids j hlt)
      have ht1 := Sh.nodess_take kids j
      obtain ⟨q, hq⟩ : ∃ q, Sh.nodess (kids.take j) = q := ⟨_, rfl⟩
      rw [hq] at HS ht1 ⊢
      clear hq
      obtain ⟨p, hp⟩ : ∃ p, kids[j].nodes = p := ⟨_, rfl⟩
      rw [hp] at HS hn1 HC
      clear hp
      go_wp2_with (go_at_call 42; refine HC.out.mono ?_; rintro e w1 ⟨rfl, hb1⟩)
      go_roundw
      case rel => exact ⟨j + 1, by omega, by go_num, by rw [HS.out]; go_num, below2 hbel hb1 (Nat.le_refl _)⟩
      case measure => simp [intOf]; omega
    · obtain rfl : j = kids.length := by omega
      rw [List.take_length]
      go_wp2
      go_ret
      exact ⟨rfl, hbw⟩
theorem Mn_all : ∀ n, MnA n
  | 0 => fun x cs w hn => absurd x.nodes_pos (by omega)
  | n + 1 => MnA_of (Mn_all n)

set_option maxHeartbeats 400000 in
set_option maxRecDepth 10000 in
theorem shapeOk_spec (x : Sh) (cs : List Value) (w : World) (h : Rd w x.d cs) (hwf : x.wf) (hbk : x.bulk ≤ 4294967295) :
    Calls Tryd.prog 20 #[.agg cs.toArray] w fun e w' => e = .returned (.bool x.ok) ∧ Below w.heap.size w w' := by
  obtain ⟨k, l, hi, a1, n1, c1, m, a2, n2, c2, rfl⟩ := Sh.form h
  obtain ⟨W0, hW0⟩ : ∃ W0, W0 = w.alloc (.cells #[.int .i64 k, .int .i64 l, .int .i64 hi, .slice a1 n1 c1, .int .i64 m, .slice a2 n2 c2] 29) := ⟨_, rfl⟩
  have HW := Lib.hid hW0
  have hA : Below w.heap.size w W0 := by rw [hW0]; exact (Below.refl _ _).alloc (Nat.le_refl _) _
  have hz : w.heap.size < W0.heap.size := by rw [hW0]; simp
  have KB : Hid (∀ W, Below W0.heap.size W0 W → W.cell? ⟨w.heap.size, 0, none⟩ = some (.int .i64 k) ∧ W.cell? ⟨w.heap.size, 1, none⟩ = some (.int .i64 l) ∧ W.cell? ⟨w.heap.size, 2, none⟩ = some (.int .i64 hi) ∧ W.cell? ⟨w.heap.size, 3, none⟩ = some (.slice a1 n1 c1) ∧ W.cell? ⟨w.heap.size, 4, none⟩ = some (.int .i64 m) ∧ W.cell? ⟨w.heap.size, 5, none⟩ = some (.slice a2 n2 c2)) := by
    intro W hb
    obtain ⟨hc, _⟩ := bcell hb
    simp only [hc _ _ hz]; subst hW0; simp
  have hnb := x.nodes_bulk
  have HR := Lib.hid (fun W (hb : Below W0.heap.size W0 W) => Rt_all x.nodes x _ 8 W (Nat.le_refl _) (h.below (below2 hA hb (Nat.le_refl _))) hwf hbk (by omega) (by decide))
  have HM := Lib.hid (fun W (hb : Below W0.heap.size W0 W) => Mn_all x.nodes x _ W (Nat.le_refl _) (h.below (below2 hA hb (Nat.le_refl _))) hbk)
  have hB := Below.refl W0.heap.size W0
  clear hW0 h
  go_enter Tryd.func20, Tryd.ntmps20
  cases hr : Sh.right 8 x with
  | true =>
    have HV := Lib.hid hr; clear hr
    go_wp2_with (first | (go_at_call 41; rw [← HW.out]; refine (HR.out _ hB).mono ?_; rw [HV.out]; rintro e w1 ⟨rfl, hb1⟩; obtain ⟨p0, p1, p2, p3, p4, p5⟩ := KB.out _ hb1) | (go_at_call 42; refine (HM.out _ hb1).mono ?_; rintro e w2 ⟨rfl, hb2⟩))
    go_ret
    refine ⟨ret_bool ?_, below2 hA (below2 hb1 hb2 (Nat.le_refl _)) (Nat.le_refl _)⟩
    unfold Sh.ok; rw [HV.out, Bool.true_and, Bool.eq_iff_iff]; simp; omega
  | false =>
    have HV := Lib.hid hr; clear hr
    go_wp2_with (first | (go_at_call 41; rw [← HW.out]; refine (HR.out _ hB).mono ?_; rw [HV.out]; rintro e w1 ⟨rfl, hb1⟩))
    go_ret
    refine ⟨ret_bool ?_, below2 hA hb1 (Nat.le_refl _)⟩
    unfold Sh.ok; rw [HV.out]; rfl
end Go.Proofs.YtpknmldpdoadgaaDoor

/- spec.l15Join, spec.Join on values without memory. -/
namespace Go.Proofs.YtpknmldpdoadgaaDoor
open Go.RowKit
variable {T : World → Prop} {hT : Low ngl T}

theorem same_fn (a b : Sh) (ha : a.bulk ≤ 1048576) (hb : b.bulk ≤ 1048576) : FnV (env T hT) 43 [.ag (shC a), .ag (shC b)] (.d (pB (decide (a = b)))) := by
  refine FnV.old rfl ?_
  intro w C vs hF hng hT hl2 hv
  match vs, hl2 with
  | [v, k], _ =>
    obtain ⟨cs, rfl, h1⟩ := vRd hF (Sh.wfd a) (by rw [Sh.pc_eq]; exact hv 0 _ _ rfl rfl)
    obtain ⟨ds, rfl, h2⟩ := vRd hF (Sh.wfd b) (by rw [Sh.pc_eq]; exact hv 1 _ _ rfl rfl)
    exact sameShape_spec a b cs ds w h1 h2 ha hb
theorem ok_fn (a : Sh) (hw : a.wf) (ha : a.bulk ≤ 4294967295) : FnV (env T hT) 20 [.ag (shC a)] (.d (pB a.ok)) := by
  refine FnV.old rfl ?_
  intro w C vs hF hng hT hl2 hv
  match vs, hl2 with
  | [v], _ =>
    obtain ⟨cs, rfl, h1⟩ := vRd hF (Sh.wfd a) (by rw [Sh.pc_eq]; exact hv 0 _ _ rfl rfl)
    exact shapeOk_spec a cs w h1 hw ha

def J1F : List (Nat × PV) := [(2, .ref 0 0), (3, .ref 1 0), (4, .ref 2 0)]
set_option maxHeartbeats 1000000 in
theorem join1_fn {N : Nat} (hJ : JnP T hT N) (a b : Sh) (hn : a.nodes ≤ N + 1) (hwa : a.wf) (hwb : b.wf) (hoa : a.ok = true) (hob : b.ok = true) :
    FnO (env T hT) 21 [.ag (shC a), .ag (shC b)] (.ag (shC (join1 (joinS N) a b))) := by
  have hba := (Sh.ok_bulk hoa).1
  have hbb := (Sh.ok_bulk hob).1
  refine fn_of (look_env lk_s_l15Join) (by show 2 ≤ 108; decide) fun B hB => ?_
  unfold m_s_l15Join
  refine mw_seq (mw_ops ?_)
  iterate 2 (refine po_box rfl ?_)
  refine po_zero ?_
  refine po_nil ?_
  refine mw_cut (fun s => has s.tm (J1F ++ [(5, .d (pB (numK a.kind && numK b.kind)))]) ∧ s.bx = [shC a, shC b, zSh] ∧ s.nt = 2 ∧ s.live = []) ?_ ?_
  · refine mw_ops ?_
    repeat' (first | refine po_skip rfl ?_ | refine po_bc rfl rfl (fun hb => ?_) (fun hb => ?_) | refine po_q rfl rfl ?_)
    all_goals
      refine po_nil ?_
      refine ⟨⟨rfl, rfl, rfl, ?_, trivial⟩, rfl, rfl, rfl⟩
      clear hJ hn hwa hwb hoa hob hB
      first
        | (have e1 : (numK a.kind && numK b.kind) = true := by simp_all [numK]
           rw [e1]; rfl)
        | (have e1 : (numK a.kind && numK b.kind) = false := by simp_all [numK]
           rw [e1]; rfl)
  rintro tm bx nt live ⟨ht, hbx, hnt9, hlv9⟩
  simp only at hbx hnt9 hlv9; subst hbx; subst hnt9; subst hlv9
  obtain ⟨tm0, rfl⟩ := has_ups ht
  clear ht
  generalize hnb : (numK a.kind && numK b.kind) = nb
  refine mw_seq (mw_block (mw_seq (mw_ops ?_)))
  iterate 2 (refine po_q rfl rfl ?_)
  refine po_call (shC_arg2 a b) (same_fn a b (by omega) (by omega)) ?_
  refine po_q rfl rfl ?_
  refine po_nil ?_
  refine mw_cond rfl (fun hc => ?_) (fun hc => ?_)
  · have hab : a = b := of_decide_eq_true hc
    refine mw_seq (mw_ops ?_)
    refine po_q rfl rfl ?_
    refine po_sh (shC_arg a) (copy_fn _ a (Nat.le_refl _) (by omega)) ?_
    intro c0 c1 c2 c3 c4 c5 nt' hx hnt hN
    refine po_store rfl rfl rfl ⟨rfl, Nat.le_of_ble_eq_true rfl⟩ rfl ?_
    refine po_nil ?_
    refine mw_ret ⟨.inr rfl, _, rfl, ?_, hN.nd, fun t ht => List.mem_append.2 (.inl ht), hN.own⟩
    rw [join1_same hab]; exact congrArg (fun l => some (PV.ag l)) hx
  have hab : a ≠ b := of_decide_eq_false hc
  clear hc
  refine mw_seq (mw_ops ?_)
  cases nb
  all_goals
    repeat' (first | refine po_skip rfl ?_ | refine po_bc rfl rfl (fun hb => ?_) (fun hb => ?_) | refine po_q rfl rfl ?_)
  all_goals
    refine po_nil ?_
    first
      | refine mw_cond (t := true) rfl (fun _ => ?_) (fun h => absurd h (by decide))
      | refine mw_cond (t := false) rfl (fun h => absurd h (by decide)) (fun _ => ?_)
  case true.refine_1 =>
    have hk : a.kind ≠ b.kind := by simpa using ‹(a.kind != b.kind) = true›
    refine mw_seq (mw_ops ?_)
    refine po_q rfl rfl ?_
    refine po_store rfl rfl rfl ⟨rfl, Nat.le_of_ble_eq_true rfl⟩ rfl ?_
    refine po_nil ?_
    refine mw_ret ⟨.inr rfl, _, rfl, ?_, by show ([] : List Nat).Nodup; simp, fun t ht => ht, rfl⟩
    rw [join1_num hab hnb hk]; rfl
  all_goals
    refine mw_seq (mw_ops ?_)
    iterate 4 (refine po_q rfl rfl ?_)
    refine po_b rfl rfl (fun b1 hb1 => ?_)
    refine po_q rfl rfl ?_
    refine po_nil ?_
    refine mw_cond rfl (fun hc => ?_) (fun hc => ?_)
    · have hk : a.kind ≠ b.kind := by rw [hb1] at hc; simpa using hc
      first
        | exact absurd (show a.kind = b.kind by simpa using ‹(a.kind != b.kind) = false›) hk
        | (refine mw_seq (mw_ops ?_)
           refine po_q rfl rfl ?_
           refine po_store rfl rfl rfl ⟨rfl, Nat.le_of_ble_eq_true rfl⟩ rfl ?_
           refine po_nil ?_
           refine mw_ret ⟨.inr rfl, _, rfl, ?_, by show ([] : List Nat).Nodup; simp, fun t ht => ht, rfl⟩
           rw [join1_diff hab hnb hk]; rfl)
    · have hk : a.kind = b.kind := by rw [hb1] at hc; simpa using hc
      refine mw_seq (mw_ops ?_)
      iterate 2 (refine po_q rfl rfl ?_)
      refine po_b rfl rfl (fun b2 hb2 => ?_)
      refine po_q rfl rfl ?_
      refine po_nil ?_
      refine mw_cond rfl (fun hc2 => ?_) (fun hc2 => ?_)
      · have h8 : a.kind = 8 := by rw [hb2] at hc2; simpa using hc2
        refine mw_seq (mw_ops ?_)
        iterate 2 (refine po_q rfl rfl ?_)
        refine po_sh (shC_arg2 a b) (maps_fn hJ a b hn hwa hwb hoa hob h8 (hk.symm.trans h8)) ?_
        intro c0 c1 c2 c3 c4 c5 nt' hx hnt hN
        refine po_store rfl rfl rfl ⟨rfl, Nat.le_of_ble_eq_true rfl⟩ rfl ?_
        refine po_nil ?_
        refine mw_ret ⟨.inr rfl, _, rfl, ?_, hN.nd, fun t ht => List.mem_append.2 (.inl ht), hN.own⟩
        rw [join1_maps hab h8 (hk.symm.trans h8)]; exact congrArg (fun l => some (PV.ag l)) hx
      · have h8 : a.kind ≠ 8 := by rw [hb2] at hc2; simpa using hc2
        refine mw_cut (fun s => has s.tm (J1F ++ [(55, .d (pB (bdK a.kind)))]) ∧ s.bx = [shC a, shC b, zSh] ∧ s.nt = 2 ∧ s.live = []) ?_ ?_
        · refine mw_ops ?_
          repeat' (first | refine po_skip rfl ?_ | refine po_bc rfl rfl (fun hb => ?_) (fun hb => ?_) | refine po_q rfl rfl ?_)
          all_goals
            refine po_nil ?_
            refine ⟨⟨rfl, rfl, rfl, ?_, trivial⟩, rfl, rfl, rfl⟩
            clear hJ hn hwa hwb hoa hob hB
            first
              | (have e1 : bdK a.kind = true := by simp_all [bdK]
                 rw [e1]; rfl)
              | (have e1 : bdK a.kind = false := by simp_all [bdK]
                 rw [e1]; rfl)
        clear tm0
        rintro tm bx nt live ⟨ht, hbx, hnt9, hlv9⟩
        simp only at hbx hnt9 hlv9; subst hbx; subst hnt9; subst hlv9
        obtain ⟨tm0, rfl⟩ := has_ups ht
        clear ht
        refine mw_cond rfl (fun hbd => ?_) (fun hbd => ?_)
        · obtain ⟨hk0, hm0, hk7, hk7'⟩ := ok_bd hoa hbd
          obtain ⟨_, _, _, hk7b⟩ := ok_bd hob (by rw [← hk]; exact hbd)
          refine mw_seq (mw_ops ?_)
          refine po_q rfl rfl ?_
          refine po_sh (shC_arg a) (copy_fn _ a (Nat.le_refl _) (by omega)) ?_
          intro c0 c1 c2 c3 c4 c5 nt' hx hnt hN
          obtain ⟨t3, r3, t5, r5, rfl, rfl, rfl, rfl, rfl, rfl, hr3, hr5⟩ := sh_cells hx
          refine po_zero ?_
          refine po_store rfl rfl rfl ⟨rfl, Nat.le_of_ble_eq_true rfl⟩ rfl ?_
          refine po_nil ?_
          obtain ⟨live', hlive⟩ : ∃ l, toksL [pI a.kind, pI a.low, pI a.high, .sl t3 r3, pI a.must, .sl t5 r5] ++ [] = l := ⟨_, rfl⟩
          have hO : OwnL nt' live' [pI a.kind, pI a.low, pI a.high, .sl t3 r3, pI a.must, .sl t5 r5] := by rw [← hlive]; exact hN.ownL _
          rw [hlive]
          refine mw_cut (fun s => has s.tm (J1F ++ [(6, .ref 3 0)]) ∧ s.bx = [shC a, shC b, zSh, [pI a.kind, pI (min a.low b.low), pI a.high, .sl t3 r3, pI a.must, .sl t5 r5]] ∧ s.nt = nt' ∧ s.live = live') ?_ ?_
          · refine mw_seq (mw_ops ?_)
            iterate 4 (refine po_q rfl rfl ?_)
            refine po_b rfl rfl (fun b3 hb3 => ?_)
            refine po_nil ?_
            refine mw_cond rfl (fun hc3 => ?_) (fun hc3 => ?_)
            · have hm : min a.low b.low = b.low := by rw [hb3] at hc3; have := of_decide_eq_true hc3; omega
              refine mw_ops ?_
              iterate 3 (refine po_q rfl rfl ?_)
              refine po_store rfl rfl rfl ⟨rfl, Nat.le_of_ble_eq_true rfl⟩ rfl ?_
              refine po_nil ?_
              refine ⟨⟨rfl, rfl, rfl, rfl, trivial⟩, ?_, rfl, rfl⟩
              rw [hm] <;> rfl
            · have hm : min a.low b.low = a.low := by rw [hb3] at hc3; have := of_decide_eq_false hc3; omega
              refine mw_skip ?_
              refine ⟨⟨rfl, rfl, rfl, rfl, trivial⟩, ?_, rfl, rfl⟩
              rw [hm] <;> rfl
          rintro tm bx nt live ⟨ht, hbx, hnt9, hlv9⟩
          simp only at hbx hnt9 hlv9; subst hbx; subst hnt9; subst hlv9
          obtain ⟨tm0, rfl⟩ := has_ups ht
          clear ht
          refine mw_cut (fun s => has s.tm (J1F ++ [(6, .ref 3 0)]) ∧ s.bx = [shC a, shC b, zSh, [pI a.kind, pI (min a.low b.low), pI (max a.high b.high), .sl t3 r3, pI a.must, .sl t5 r5]] ∧ s.nt = nt ∧ s.live = live) ?_ ?_
          · refine mw_seq (mw_ops ?_)
            iterate 4 (refine po_q rfl rfl ?_)
            refine po_b rfl rfl (fun b3 hb3 => ?_)
            refine po_nil ?_
            refine mw_cond rfl (fun hc3 => ?_) (fun hc3 => ?_)
            · have hm : max a.high b.high = b.high := by rw [hb3] at hc3; have := of_decide_eq_true hc3; omega
              refine mw_ops ?_
              iterate 3 (refine po_q rfl rfl ?_)
              refine po_store rfl rfl rfl ⟨rfl, Nat.le_of_ble_eq_true rfl⟩ rfl ?_
              refine po_nil ?_
              refine ⟨⟨rfl, rfl, rfl, rfl, trivial⟩, ?_, rfl, rfl⟩
              rw [hm] <;> rfl
            · have hm : max a.high b.high = a.high := by rw [hb3] at hc3; have := of_decide_eq_false hc3; omega
              refine mw_skip ?_
              refine ⟨⟨rfl, rfl, rfl, rfl, trivial⟩, ?_, rfl, rfl⟩
              rw [hm] <;> rfl
          rintro tm bx nt live ⟨ht, hbx, hnt9, hlv9⟩
          simp only at hbx hnt9 hlv9; subst hbx; subst hnt9; subst hlv9
          obtain ⟨tm0, rfl⟩ := has_ups ht
          clear ht
          have hj := join1_bd (f := joinS N) hab hk hbd
          refine mw_cut (fun s => has s.tm (J1F ++ [(6, .ref 3 0)]) ∧ ∃ t6 r6, s.bx = [shC a, shC b, zSh, [pI a.kind, pI (min a.low b.low), pI (max a.high b.high), .sl t3 r3, pI a.must, .sl t6 r6]] ∧ erLL r6 = shK (if a.kind = 7 then [joinS N (a.kids.headD shNil) (b.kids.headD shNil)] else []) ∧ OwnL s.nt s.live [pI a.kind, pI a.low, pI a.high, .sl t3 r3, pI a.must, .sl t6 r6]) ?_ ?_
          · refine mw_seq (mw_ops ?_)
            iterate 2 (refine po_q rfl rfl ?_)
            refine po_b rfl rfl (fun b3 hb3 => ?_)
            refine po_nil ?_
            refine mw_cond rfl (fun hc3 => ?_) (fun hc3 => ?_)
            · have h7 : a.kind = 7 := by rw [hb3] at hc3; simpa using hc3
              obtain ⟨kda, hkda⟩ := hk7' h7
              obtain ⟨kdb, hkdb⟩ := hk7b (hk.symm.trans h7)
              have h0a := one_kid (N := N) hkda
              have h0b := one_kid (N := N) hkdb
              refine mw_ops ?_
              iterate 2 (refine po_q rfl rfl ?_)
              refine po_ix (es := shK a.kids) (e := shC kda) rfl rfl rfl ⟨by decide, by rw [hkda, shK_eq]; rfl⟩ rfl ?_
              iterate 3 (refine po_q rfl rfl ?_)
              refine po_ix (es := shK b.kids) (e := shC kdb) rfl rfl rfl ⟨by decide, by rw [hkdb, shK_eq]; rfl⟩ rfl ?_
              refine po_q rfl rfl ?_
              refine po_sh (shC_arg2 kda kdb) (hJ kda kdb (h0a.1 hn) (h0a.2.1 hwa) (h0b.2.1 hwb) (by omega) (by omega)) ?_
              intro d0 d1 d2 d3 d4 d5 nt2 hy hnt2 hM
              refine po_lit rfl ?_
              refine po_q rfl rfl ?_
              refine po_store rfl rfl rfl ⟨rfl, Nat.le_of_ble_eq_true rfl⟩ rfl ?_
              refine po_nil ?_
              refine ⟨⟨rfl, rfl, rfl, rfl, trivial⟩, nt2, [[d0, d1, d2, d3, d4, d5]], rfl, ?_, ?_⟩
              · rw [if_pos h7, hkda, hkdb, shK_eq]
                show [erL [d0, d1, d2, d3, d4, d5]] = [shC (joinS N kda kdb)]
                rw [hy]
              · have h1 := (OwnL.drop (a := [pI a.kind, pI a.low, pI a.high, .sl t3 r3, pI a.must]) (b := []) hO).push1 (nt' := nt2) (by omega) hM.own hM.nd hM.mem (by omega)
                refine h1.mono (Nat.le_refl _) fun t ht _ => ?_
                rcases List.mem_cons.1 ht with h | h
                · subst h; exact List.mem_cons_self
                · exact List.mem_cons_of_mem _ (List.mem_filter.1 h).1
            · have h7 : a.kind ≠ 7 := by rw [hb3] at hc3; simpa using hc3
              refine mw_skip ?_
              refine ⟨⟨rfl, rfl, rfl, rfl, trivial⟩, t5, r5, rfl, ?_, hO⟩
              rw [if_neg h7, hr5, hk7 h7]
          rintro tm bx nt live ⟨ht, t6, r6, rfl, hr6, hO6⟩
          obtain ⟨tm0, rfl⟩ := has_ups ht
          clear ht
          refine mw_seq (mw_ops ?_)
          refine po_q rfl rfl ?_
          refine po_store rfl rfl rfl ⟨rfl, Nat.le_of_ble_eq_true rfl⟩ rfl ?_
          refine po_nil ?_
          refine mw_ret ⟨.inr rfl, _, rfl, ?_, hO6.nd, fun t ht => (hO6.mem t ht).1, hO6.own⟩
          rw [hj]
          refine congrArg (fun l => some (PV.ag l)) ?_
          have hks : a.keys = [] := List.eq_nil_of_length_eq_zero hk0
          show erL [pI a.kind, pI (min a.low b.low), pI (max a.high b.high), .sl t3 r3, pI a.must, .sl t6 r6] = _
          simp only [erL, PC.er, hr3, hr6, hks, hm0]
          rfl
        · refine mw_skip ?_
          refine mw_seq (mw_ops ?_)
          refine po_q rfl rfl ?_
          refine po_store rfl rfl rfl ⟨rfl, Nat.le_of_ble_eq_true rfl⟩ rfl ?_
          refine po_nil ?_
          have h4 : a.kind ≠ 4 := fun h4 => hab (ok_four hoa hob h4 (hk.symm.trans h4))
          refine mw_ret ⟨.inr rfl, _, rfl, ?_, by show ([] : List Nat).Nodup; simp, fun t ht => ht, rfl⟩
          rw [join1_none hab hk hbd h4 h8]; rfl
end Go.Proofs.YtpknmldpdoadgaaDoor

/- spec.Join on values without memory. -/
namespace Go.Proofs.YtpknmldpdoadgaaDoor
open Go.RowKit
variable {T : World → Prop} {hT : Low ngl T}

theorem join_step {N : Nat} (hJ : JnP T hT N) (a b : Sh) (hn : a.nodes ≤ N + 1) (hwa : a.wf) (hwb : b.wf) (hba : a.bulk ≤ 4294967295) (hbb : b.bulk ≤ 4294967295) :
    FnO (env T hT) 6 [.ag (shC a), .ag (shC b)] (.ag (shC (joinS (N + 1) a b))) := by
  have hj : joinS (N + 1) a b = if (a.ok && b.ok) = true then (if (join1 (joinS N) a b).ok = true then join1 (joinS N) a b else shNil) else shNil := rfl
  rw [hj]
  have hfa := ok_fn (T := T) (hT := hT) a hwa hba
  have hfb := ok_fn (T := T) (hT := hT) b hwb hbb
  have hf1 := fun h1 h2 => join1_fn (T := T) (hT := hT) hJ a b hn hwa hwb h1 h2
  have hg1 := fun h1 h2 => join1_good (joinS_good N) (a := a) (b := b) hwa hwb h1 h2
  generalize a.ok = oa at hfa hf1 hg1 ⊢
  generalize b.ok = ob at hfb hf1 hg1 ⊢
  generalize join1 (joinS N) a b = r at hf1 hg1 ⊢
  refine fn_of (look_env lk_s_Join) (by show 2 ≤ 23; decide) fun B hB => ?_
  unfold m_s_Join
  refine mw_seq (mw_ops ?_)
  iterate 2 (refine po_box rfl ?_)
  refine po_zero ?_
  refine po_nil ?_
  refine mw_seq (mw_cut (fun s => has s.tm (J1F ++ [(13, .d (pB (!(oa && ob))))]) ∧ s.bx = [shC a, shC b, zSh] ∧ s.nt = 2 ∧ s.live = []) ?_ ?_)
  · refine mw_ops ?_
    refine po_q rfl rfl ?_
    refine po_call (shC_arg a) hfa ?_
    cases oa
    · repeat' (first | refine po_skip rfl ?_ | refine po_q rfl rfl ?_)
      refine po_nil ?_
      exact ⟨⟨rfl, rfl, rfl, rfl, trivial⟩, rfl, rfl, rfl⟩
    · iterate 3 (refine po_q rfl rfl ?_)
      refine po_gcall (b := true) rfl (fun _ => shC_arg b) (fun _ => hfb) ?_
      cases ob
      all_goals
        repeat' (first | refine po_skip rfl ?_ | refine po_q rfl rfl ?_)
        refine po_nil ?_
        exact ⟨⟨rfl, rfl, rfl, rfl, trivial⟩, rfl, rfl, rfl⟩
  rintro tm bx nt live ⟨ht, hbx, hnt9, hlv9⟩
  simp only at hbx hnt9 hlv9; subst hbx; subst hnt9; subst hlv9
  obtain ⟨tm0, rfl⟩ := has_ups ht
  clear ht
  refine mw_cond rfl (fun hc => ?_) (fun hc => ?_)
  · rw [if_neg (by rw [Bool.not_eq_true'] at hc; rw [hc]; decide)]
    refine mw_seq (mw_ops ?_)
    refine po_q rfl rfl ?_
    refine po_store rfl rfl rfl ⟨rfl, Nat.le_of_ble_eq_true rfl⟩ rfl ?_
    refine po_nil ?_
    exact mw_ret ⟨.inr rfl, _, rfl, rfl, by show ([] : List Nat).Nodup; simp, fun t ht => ht, rfl⟩
  rw [Bool.not_eq_false'] at hc
  rw [if_pos hc]
  rw [Bool.and_eq_true] at hc
  obtain ⟨hrw, hrb⟩ := hg1 hc.1 hc.2
  have hfr := ok_fn (T := T) (hT := hT) r hrw hrb
  generalize r.ok = ro at hfr ⊢
  refine mw_skip ?_
  refine mw_seq (mw_ops ?_)
  iterate 2 (refine po_q rfl rfl ?_)
  refine po_sh (shC_arg2 a b) (hf1 hc.1 hc.2) ?_
  intro c0 c1 c2 c3 c4 c5 nt' hx hnt hN
  refine po_zero ?_
  refine po_store rfl rfl rfl ⟨rfl, Nat.le_of_ble_eq_true rfl⟩ rfl ?_
  refine po_nil ?_
  refine mw_seq (mw_seq (mw_ops ?_))
  refine po_q rfl rfl ?_
  refine po_call (congrArg (fun l => some [PV.ag l]) hx) hfr ?_
  refine po_q rfl rfl ?_
  refine po_nil ?_
  cases ro
  · refine mw_cond (t := true) rfl (fun _ => ?_) (fun h => absurd h (by decide))
    refine mw_seq (mw_ops ?_)
    refine po_q rfl rfl ?_
    refine po_store rfl rfl rfl ⟨rfl, Nat.le_of_ble_eq_true rfl⟩ rfl ?_
    refine po_nil ?_
    exact mw_ret ⟨.inr rfl, _, rfl, rfl, by show ([] : List Nat).Nodup; simp, fun t ht => absurd (show t ∈ ([] : List Nat) from ht) (by simp), rfl⟩
  · refine mw_cond (t := false) rfl (fun h => absurd h (by decide)) (fun _ => ?_)
    refine mw_skip ?_
    refine mw_seq (mw_ops ?_)
    refine po_q rfl rfl ?_
    refine po_store rfl rfl rfl ⟨rfl, Nat.le_of_ble_eq_true rfl⟩ rfl ?_
    refine po_nil ?_
    exact mw_ret ⟨.inr rfl, _, rfl, congrArg (fun l => some (PV.ag l)) hx, hN.nd, fun t ht => List.mem_append.2 (.inl ht), hN.own⟩
theorem joinP_all : ∀ N, JnP T hT N
  | 0 => fun a b hn => by obtain ⟨k, l, h, ks, m, kids⟩ := a; simp [Sh.nodes] at hn
  | N + 1 => fun a b hn hwa hwb hba hbb => join_step (joinP_all N) a b hn hwa hwb (by omega) (by omega)
/-- the reference's Join -/
theorem join_spec (a b : Sh) (hwa : a.wf) (hwb : b.wf) (hba : a.bulk ≤ 4294967295) (hbb : b.bulk ≤ 4294967295) : FnO (env T hT) 6 [.ag (shC a), .ag (shC b)] (.ag (shC (joinS (a.nodes + 1) a b))) :=
  join_step (joinP_all a.nodes) a b (by omega) hwa hwb hba hbb
end Go.Proofs.YtpknmldpdoadgaaDoor

/- Rows of texts that a function has made, out of a contract on data in memory. No program in sight. -/
namespace Go.Proofs.YtpknmldpdoadgaaDoor
open Go.RowKit

theorem pSr_flat (ks : List (List UInt8)) : (pSr ks).flatten = ks.map pS := by
  induction ks with
  | nil => rfl
  | cons k ks ih => simp only [pSr, List.map_cons, List.flatten_cons] at ih ⊢; rw [ih]; rfl
theorem FnO.oldR {E : Env} {f : Nat} {args : List PV} {ks : List (List UInt8)} {te : TypeId} (h : ∀ (w : World) (C : Cx) (vs : List Value), (∀ b o, C.F b o → b < w.heap.size) → E.NG ≤ w.heap.size → E.T w → vs.length = args.length → (∀ (j : Nat) (x : PV) (y : Value), args[j]? = some x → vs[j]? = some y → RpV C w x y) →
    Calls E.P f vs.toArray w fun e w' => ∃ v', e = .returned v' ∧ Below w.heap.size w w' ∧ OwnR w' w.heap.size te v' (ks.map fun k => .string ⟨k.toArray⟩)) : FnO E f args (.d (pSs ks)) := by
  intro C w vs hI hnt hold hl hv
  have hI0 : Inv E.NG E.T C [] (· ∈ ([] : List Nat)) w := ⟨hI.nb, hI.box, hI.boxF, hI.boxG, hI.inj, (fun t ht => by cases ht), (fun t s b ht => by cases ht), hI.fin, hI.ng, hI.t⟩
  refine (h w C vs hI.fin hI.ng hI.t hl hv).mono ?_
  rintro e w' ⟨v', rfl, hb, hlen, hO⟩
  have hF : Fix C w w' := fun b o hF => World.cell?_of_block (a := ⟨b, o, none⟩) (hb.block b (hI.fin b o hF))
  have hemp : ∀ (a : Option Addr) (c : Nat), ks = [] → v' = .slice a 0 c → ∃ u x bx live C', Ending.returned v' = .returned u ∧ (fun (x : PV) lv => x.dat = some (.d (pSs ks)) ∧ x.toks.Nodup ∧ (∀ t ∈ x.toks, lv t) ∧ match x with
      | .d c => c.owned = true
      | .ag cs => ownedL cs = true
      | _ => False) x live ∧ Inv E.NG E.T C' bx live w' ∧ Ext C w C' bx.length live w' ∧ RpV C' w' x u := by
    rintro a c rfl rfl
    refine ⟨.slice a 0 c, .d (.sl 0 []), [], fun _ => False, C, rfl, ⟨rfl, by show ([] : List Nat).Nodup; simp, fun t ht => absurd (show t ∈ ([] : List Nat) from ht) (by simp), rfl⟩, ⟨hI.nb, fun p cs hp => by simp at hp, fun p hp => by simp at hp, fun p hp => by simp at hp, fun p q hp => by simp at hp, fun t ht => ht.elim, fun t s b ht => ht.elim, fun b o h => Nat.lt_of_lt_of_le (hI.fin b o h) hb.size, Nat.le_trans hI.ng hb.size, E.low w w' hI.t hb.size (fun k hk => hb.block k (Nat.lt_of_lt_of_le hk hI.ng))⟩,
      ⟨hb.os, hb.tape, hb.output, hb.size, fun _ _ h => h, hF, fun k hk _ _ => hb.block k hk, ⟨Nat.le_refl _, fun _ _ => rfl⟩, fun _ _ h => .inl h, fun t b ht => ht.elim, (fun p hp hp2 => by simp at hp2), ⟨Nat.le_refl _, fun _ _ => ⟨rfl, rfl, rfl, rfl⟩⟩⟩, .d _ _ (.emp a c)⟩
  rcases hO with ⟨rfl, h0⟩ | ⟨g, cap, cur, rfl, hg, hblk, hn, hm, hsz, htk⟩
  · exact hemp none 0 (by simpa using h0) rfl
  by_cases hks : ks = []
  · exact hemp _ _ hks (by rw [hks]; rfl)
  have hpos : 0 < ks.length := by cases ks with | nil => exact absurd rfl hks | cons => simp
  rw [List.length_map] at hn htk hlen ⊢
  rw [Nat.mul_one] at htk hsz
  obtain ⟨hI', hF'⟩ := hI0.newTok (w' := w') E.low (by omega) 0 (some g) cap ks.length 1 hb.size (fun k hk _ => hb.block k hk) (fun h => by cases h) (fun b hb2 => by
    simp only [Option.some.injEq] at hb2; subst hb2
    exact ⟨.inl hg, ⟨cur, te, hblk, by omega⟩, hn, hm, by decide, fun h => by omega⟩) (fun b hb2 hlt => by simp only [Option.some.injEq] at hb2; omega) (fun b hb2 o hFo => by
    simp only [Option.some.injEq] at hb2; have := hI.fin b o hFo; omega)
  have hcell : ∀ (q : Nat) (y : Value), (ks.map fun k => Value.string ⟨k.toArray⟩)[q]? = some y → w'.cell? ⟨g, q, none⟩ = some y := by
    intro q y hq
    rw [cell_of_block hblk]
    rw [← htk, List.getElem?_take] at hq
    split at hq
    · simpa using hq
    · cases hq
  have hown := own_new (C := C) (w := w) (w' := w') (b := g) (cap := cap) (n := 1) (es := pSr ks) (fl := ks.map fun k => Value.string ⟨k.toArray⟩) (by omega) (by decide) (fun e he => by obtain ⟨k, _, rfl⟩ := List.mem_map.1 he; rfl) ⟨by rw [pSr_flat, List.length_map, List.length_map], fun j c y h1 h2 => by
    rw [pSr_flat, List.getElem?_map] at h1
    rw [List.getElem?_map] at h2
    cases hk : ks[j]? with
    | none => rw [hk] at h1; cases h1
    | some k => rw [hk] at h1 h2; simp only [Option.map_some, Option.some.injEq] at h1 h2; subst h1; subst h2; exact .v _ rfl⟩ hcell (by simp [pSr]; exact hn) hm hF'
  have hle := Cx.tok_le C (some g) cap ks.length 1
  have htokn := Cx.tok_new C (some g) cap ks.length 1
  have hl2 : (pSr ks).length = ks.length := by simp [pSr]
  rw [hl2] at hown
  rw [hnt] at hown htokn
  have hown2 : RpV (C.tok (some g) cap ks.length 1) w' (.d (.sl 2 (pSr ks))) (.slice (some ⟨g, 0, none⟩) ks.length cap) := .d _ _ hown
  refine ⟨_, .d (.sl 2 (pSr ks)), [], (· ∈ C.nt :: ([] : List Nat).filter (· != 0)), C.tok (some g) cap ks.length 1, rfl, ⟨congrArg (fun l => some (PV.d (.sl 0 l))) (pSr_er ks), ?_, ?_, ?_⟩, hI', ?_, hown2⟩
  · show (PC.toks (.sl 2 (pSr ks))).Nodup
    rw [toks_sl2 (by decide), pSr_tok]; simp
  · intro t ht
    have : t ∈ PC.toks (.sl 2 (pSr ks)) := ht
    rw [toks_sl2 (by decide), pSr_tok, List.mem_singleton] at this
    subst this; rw [hnt]; exact List.mem_cons_self
  · show PC.owned (.sl 2 (pSr ks)) = true
    rw [owned_sl2 (by decide)]; exact pSr_own ks
  · refine ⟨hb.os, hb.tape, hb.output, hb.size, hle.F, hF', fun k hk _ _ => hb.block k hk, ⟨hle.nb, hle.bx⟩, ?_, ?_, (fun p hp hp2 => by simp at hp2), ⟨hle.nt, hle.tk⟩⟩
    · rintro b o (h | ⟨h, _⟩)
      · exact .inl h
      · simp only [Option.some.injEq] at h; subst h; exact .inr (.inl hg)
    · intro t b ht hb2
      have : t = 2 := by rw [hnt] at ht; simpa using ht
      subst this
      rw [htokn.1] at hb2; simp only [Option.some.injEq] at hb2; subst hb2; exact .inl hg
end Go.Proofs.YtpknmldpdoadgaaDoor

/- Slices of the call's own whose elements are own data; how they grow. No program in sight. -/
namespace Go.Proofs.YtpknmldpdoadgaaDoor
open Go.RowKit

/-- a slice of the call's own, from block B on, of elements of n cells that are own data, in other blocks -/
def OwnSl (B : Nat) (w : World) (e : TypeId) (n : Nat) (v : Value) (ds : List D) : Prop :=
  ∃ xs fp, w.ownsRow B e n v ds.length xs ∧ (∀ d ∈ ds, D.width d = n) ∧ TreeCs w ds fp xs ∧ fp.Nodup ∧ (∀ b ∈ fp, B ≤ b) ∧ (∀ g, v.ownBlock = some g → g ∉ fp)
theorem OwnSl.nil {B : Nat} {w : World} {e : TypeId} {n : Nat} : OwnSl B w e n (.slice none 0 0) [] :=
  ⟨[], [], ⟨by simp, .inl ⟨rfl, rfl⟩⟩, by simp, by simp [TreeCs], by simp, by simp, by simp⟩
theorem OwnSl.made {B : Nat} {w : World} {e : TypeId} {n : Nat} {cs : Array Value} {cap : Nat} (hB : B ≤ w.heap.size) (hm : cap ≤ maxLen) (hs : cs.size = cap * n) : OwnSl B (w.alloc (.cells cs e)) e n (.slice (some ⟨w.heap.size, 0, none⟩) 0 cap) [] :=
  ⟨[], [], World.ownsRow_made w cs cap hB hm hs, by simp, by simp [TreeCs], by simp, by simp, by simp⟩
theorem OwnSl.form {B : Nat} {w : World} {e : TypeId} {n : Nat} {v : Value} {ds : List D} (h : OwnSl B w e n v ds) : ∃ a c, v = .slice a ds.length c := by
  obtain ⟨xs, fp, hr, _⟩ := h
  rcases hr.2 with ⟨rfl, h2⟩ | ⟨g, cap, cur, rfl, _⟩
  · rw [h2]; exact ⟨none, 0, rfl⟩
  · exact ⟨_, _, rfl⟩
theorem OwnSl.below {B : Nat} {w w' : World} {e : TypeId} {n : Nat} {v : Value} {ds : List D} (h : OwnSl B w e n v ds) (hb : Below w.heap.size w w') : OwnSl B w' e n v ds := by
  obtain ⟨xs, fp, ⟨h1, h2⟩, hw, ht, k1, k2, k3⟩ := h
  refine ⟨xs, fp, ⟨h1, ?_⟩, hw, ht.frame fun b hx => hb.block b (ht.lt b hx), k1, k2, k3⟩
  rcases h2 with h2 | ⟨g, cap, cur, hv, hg, hh, r⟩
  · exact .inl h2
  · exact .inr ⟨g, cap, cur, hv, hg, by rw [hb.block g (heap_lt hh)]; exact hh, r⟩
theorem OwnSl.alloc {B : Nat} {w : World} {e : TypeId} {n : Nat} {v : Value} {ds : List D} (h : OwnSl B w e n v ds) (o : Obj) : OwnSl B (w.alloc o) e n v ds := h.below ((Below.refl _ _).alloc (Nat.le_refl _) o)
theorem OwnSl.setCell {B : Nat} {w : World} {e : TypeId} {n : Nat} {v : Value} {ds : List D} (h : OwnSl B w e n v ds) {p : Addr} (hp : p.block < B) (u : Value) : OwnSl B (w.setCell p u) e n v ds := by
  obtain ⟨xs, fp, hr, hw, ht, k1, k2, k3⟩ := h
  exact ⟨xs, fp, ownsRow_setCell_below hr hp u, hw, ht.frame fun b hx => Below.heap_setCell _ _ _ _ (by have := k2 b hx; omega), k1, k2, k3⟩
theorem OwnSl.own {B : Nat} {w : World} {e : TypeId} {n : Nat} {v : Value} {ds : List D} (h : OwnSl B w e n v ds) (hn : 0 < n) : Own B w (.sl n ds) [v] := by
  obtain ⟨xs, fp, ⟨h1, h2⟩, hw, ht, k1, k2, k3⟩ := h
  by_cases hne : ds = []
  · subst hne
    rcases h2 with ⟨rfl, _⟩ | ⟨g, cap, cur, rfl, _⟩
    · exact ⟨[], by simp, by simp, by simp [TreeC]⟩
    · exact ⟨[], by simp, by simp, by simp [TreeC]⟩
  · rcases h2 with ⟨_, h2⟩ | ⟨g, cap, cur, rfl, hg, hh, hc1, hc2, hsz, htk⟩
    · exact absurd (List.length_eq_zero_iff.1 h2) hne
    · refine ⟨g :: fp, ?_, ?_, ?_⟩
      · rw [List.nodup_cons]; exact ⟨k3 g rfl, k1⟩
      · intro b hb; rcases List.mem_cons.1 hb with rfl | hb
        · exact hg
        · exact k2 b hb
      · simp only [TreeC]
        refine ⟨_, cap, rfl, .inr ⟨g, fp, cur, e, rfl, rfl, hh, hn, ⟨hc1, hsz⟩, hc2, hw, ?_⟩⟩
        rw [Nat.mul_comm, htk]; exact ht
theorem OwnSl.mono {B B' : Nat} {w : World} {e : TypeId} {n : Nat} {v : Value} {ds : List D} (h : OwnSl B w e n v ds) (hB : B' ≤ B) : OwnSl B' w e n v ds := by
  obtain ⟨xs, fp, ⟨h1, h2⟩, hw, ht, k1, k2, k3⟩ := h
  refine ⟨xs, fp, ⟨h1, ?_⟩, hw, ht, k1, fun b hb => Nat.le_trans hB (k2 b hb), k3⟩
  rcases h2 with h2 | ⟨g, cap, cur, hv, hg, r⟩
  · exact .inl h2
  · exact .inr ⟨g, cap, cur, hv, Nat.le_trans hB hg, r⟩

theorem lit_cells {w : World} {news : List Value} {e : TypeId} : ∀ j u, news[j]? = some u → (w.alloc (.cells news.toArray e)).cell? ((⟨w.heap.size, 0, none⟩ : Addr).add j) = some u := by
  intro j u hj
  rw [add_plain, cell_of_block (heap_alloc_new w _)]; simpa using hj
/-- what an append to such a slice leaves -/
theorem OwnSl.grow {B : Nat} {w0 w1 w' : World} {e : TypeId} {n : Nat} {v : Value} {ds ds' : List D} {news xs : List Value} {fp f2 : List Nat} {g cap : Nat} (hB : B ≤ w0.heap.size) (hr0 : w0.ownsRow B e n v ds.length xs) (hw : ∀ d ∈ ds, D.width d = n) (ht : TreeCs w0 ds fp xs) (k1 : fp.Nodup) (k2 : ∀ b ∈ fp, B ≤ b) (k3 : ∀ g, v.ownBlock = some g → g ∉ fp)
    (hb : Below w0.heap.size w0 w1) (n2 : f2.Nodup) (b2 : ∀ b ∈ f2, w0.heap.size ≤ b) (t2 : TreeCs w1 ds' f2 news) (hw' : ∀ d ∈ ds', D.width d = n)
    (hrow : w'.ownsRow B e n (.slice (some ⟨g, 0, none⟩) (ds.length + ds'.length) cap) (ds.length + ds'.length) (xs ++ news)) (hgr : (w1.alloc (.cells news.toArray e)).grownBy w' v.ownBlock) (hg : v.ownBlock = some g ∨ g = (w1.alloc (.cells news.toArray e)).heap.size) :
    OwnSl B w' e n (.slice (some ⟨g, 0, none⟩) (ds.length + ds'.length) cap) (ds ++ ds') ∧ Below B w0 w' := by
  have hal : Below w1.heap.size w1 (w1.alloc (.cells news.toArray e)) := (Below.refl _ _).alloc (Nat.le_refl _) _
  have hb2 := below2 hb hal (Nat.le_refl _)
  have hbl : ∀ k, v.ownBlock = some k → B ≤ k ∧ k < w0.heap.size := hr0.lt
  have hsz := hb.size
  have hsz2 : (w1.alloc (.cells news.toArray e)).heap.size = w1.heap.size + 1 := by simp
  have hfr : ∀ b, b < (w1.alloc (.cells news.toArray e)).heap.size → v.ownBlock ≠ some b → w'.heap[b]? = (w1.alloc (.cells news.toArray e)).heap[b]? := fun b h1 h2 => hgr.block b h1 (fun h => h2 h.symm)
  refine ⟨⟨xs ++ news, fp ++ f2, by rw [List.length_append]; exact hrow, ?_, TreeCs.append (ht.frame fun b hx => ?_) (t2.frame fun b hx => ?_), ?_, ?_, ?_⟩, ?_⟩
  · intro d hd; rcases List.mem_append.1 hd with h | h
    · exact hw d h
    · exact hw' d h
  · have := ht.lt b hx
    rw [hfr b (by omega) (fun h => k3 b h hx), hb2.block b this]
  · have := t2.lt b hx
    rw [hfr b (by omega) (fun h => by have := (hbl b h).2; have := b2 b hx; omega), hal.block b this]
  · rw [List.nodup_append]
    refine ⟨k1, n2, fun a ha b hb' => ?_⟩
    have := ht.lt a ha; have := b2 b hb'; omega
  · intro b hx; rcases List.mem_append.1 hx with h | h
    · exact k2 b h
    · exact Nat.le_trans hB (b2 b h)
  · intro g' hg'
    obtain rfl : g = g' := by simpa [Value.ownBlock] using hg'
    intro hm
    rcases List.mem_append.1 hm with h | h
    · rcases hg with hg | hg
      · exact k3 g hg h
      · have := ht.lt g h; omega
    · rcases hg with hg | hg
      · have := (hbl g hg).2; have := b2 g h; omega
      · have := t2.lt g h; omega
  · exact (hb2.mono hB).grown hgr (by omega) (fun k hk => (hbl k hk).1)

/-- append of own data, made since, to such a slice: in a plain region -/
theorem wp_appD {P : Program} {ops : Array Oper} {rest : List Oper} {o : Oper} {a : Act} {Q : Exit → Act → World → Prop} {t e : TypeId} {n bytes : Nat} {s x : Operand} {v : Value} {ds ds' : List D} {news : List Value} {w0 w1 : World}
    (T : ElemTy P t e n bytes) (hgd : o.guard = none) (ho : o.op = .call { callee := .builtin .append, args := #[s, x], argTypes := #[t, t] })
    (B : Nat) (hown : OwnSl B w0 e n v ds) (hb : Below w0.heap.size w0 w1) (hB : B ≤ w0.heap.size) (k : Owns w0.heap.size w1 ds' news) (hw' : ∀ d ∈ ds', D.width d = n) (hne : 0 < ds'.length) (h1 : ∀ u ∈ news, u.oneCell' = true)
    (hs : a.eval s = v) (c : Nat) (hx : a.eval x = .slice (some ⟨w1.heap.size, 0, none⟩) ds'.length c) (h63 : ds.length + ds'.length ≤ 4294967296) (hby : bytes ≤ 32768)
    (h : ∀ g cap w', OwnSl B w' e n (.slice (some ⟨g, 0, none⟩) (ds.length + ds'.length) cap) (ds ++ ds') → Below B w0 w' → wpList P ops Q rest (a.put o.dst (.slice (some ⟨g, 0, none⟩) (ds.length + ds'.length) cap)) w') : wpList P ops Q (o :: rest) a (w1.alloc (.cells news.toArray e)) := by
  obtain ⟨xs, fp, hr, hw, ht, k1, k2, k3⟩ := hown
  obtain ⟨f2, n2, b2, t2⟩ := k
  obtain ⟨i, z, g1, g2, g3, g4, g5⟩ := T.info
  have hwd : ∀ ds : List D, (∀ d ∈ ds, D.width d = n) → D.widths ds = ds.length * n := by
    intro ds h; induction ds with
    | nil => simp [D.widths]
    | cons x r ih => simp only [D.widths, h x (by simp), ih (fun d hd => h d (by simp [hd])), List.length_cons, Nat.succ_mul]; omega
  have hr' : (w1.alloc (.cells news.toArray e)).ownsRow B e n v ds.length xs := by
    have hb2 := below2 hb ((Below.refl w1.heap.size w1).alloc (Nat.le_refl _) (.cells news.toArray e)) (Nat.le_refl _)
    refine ⟨hr.1, ?_⟩
    rcases hr.2 with h2 | ⟨g, cap, cur, hv, hg, hh, r⟩
    · exact .inl h2
    · exact .inr ⟨g, cap, cur, hv, hg, by rw [hb2.block g (heap_lt hh)]; exact hh, r⟩
  have hsz := hb.size
  refine wpList_append_lies _ hgd s x t ho B e i z n bytes T.under g1 g2 g3 g4 g5 T.pos v ds.length xs hs hr' ⟨w1.heap.size, 0, none⟩ ds'.length c news hx (by rw [t2.len, hwd ds' hw']) lit_cells h1 hne (by unfold maxLen; omega)
    (Nat.le_trans (Nat.mul_le_mul h63 hby) (by decide)) (by simp; omega) _ rfl ?_
  intro g cap w' q1 q2 q3 _
  obtain ⟨r1, r2⟩ := OwnSl.grow hB hr hw ht k1 k2 k3 hb n2 b2 t2 hw' q1 q2 q3
  exact h g cap w' r1 r2
/-- the same inside a region that draws its order -/
theorem step_appD {P : Program} {ops : Array Oper} {o : Oper} {a : Act} {K : Act → World → Prop} {Q : Exit → Act → World → Prop} {E : Prop} {t e : TypeId} {n bytes : Nat} {s x : Operand} {v : Value} {ds ds' : List D} {news : List Value} {w0 w1 : World}
    (T : ElemTy P t e n bytes) (hgd : o.guard = none) (ho : o.op = .call { callee := .builtin .append, args := #[s, x], argTypes := #[t, t] })
    (B : Nat) (hown : OwnSl B w0 e n v ds) (hb : Below w0.heap.size w0 w1) (hB : B ≤ w0.heap.size) (k : Owns w0.heap.size w1 ds' news) (hw' : ∀ d ∈ ds', D.width d = n) (hne : 0 < ds'.length) (h1 : ∀ u ∈ news, u.oneCell' = true)
    (hs : a.eval s = v) (c : Nat) (hx : a.eval x = .slice (some ⟨w1.heap.size, 0, none⟩) ds'.length c) (h63 : ds.length + ds'.length ≤ 4294967296) (hby : bytes ≤ 32768)
    (h : ∀ g cap w', OwnSl B w' e n (.slice (some ⟨g, 0, none⟩) (ds.length + ds'.length) cap) (ds ++ ds') → Below B w0 w' → K (a.put o.dst (.slice (some ⟨g, 0, none⟩) (ds.length + ds'.length) cap)) w') :
    if Region.wanted o (yielded ops a.tmps) = true then Oper.wp P o a (w1.alloc (.cells news.toArray e)) K Q else E := by
  obtain ⟨xs, fp, hr, hw, ht, k1, k2, k3⟩ := hown
  obtain ⟨f2, n2, b2, t2⟩ := k
  obtain ⟨i, z, g1, g2, g3, g4, g5⟩ := T.info
  have hwd : ∀ ds : List D, (∀ d ∈ ds, D.width d = n) → D.widths ds = ds.length * n := by
    intro ds h; induction ds with
    | nil => simp [D.widths]
    | cons x r ih => simp only [D.widths, h x (by simp), ih (fun d hd => h d (by simp [hd])), List.length_cons, Nat.succ_mul]; omega
  have hr' : (w1.alloc (.cells news.toArray e)).ownsRow B e n v ds.length xs := by
    have hb2 := below2 hb ((Below.refl w1.heap.size w1).alloc (Nat.le_refl _) (.cells news.toArray e)) (Nat.le_refl _)
    refine ⟨hr.1, ?_⟩
    rcases hr.2 with h2 | ⟨g, cap, cur, hv, hg, hh, r⟩
    · exact .inl h2
    · exact .inr ⟨g, cap, cur, hv, hg, by rw [hb2.block g (heap_lt hh)]; exact hh, r⟩
  have hsz := hb.size
  refine step_append_lies _ hgd s x t ho B e i z n bytes T.under g1 g2 g3 g4 g5 T.pos v ds.length xs hs hr' ⟨w1.heap.size, 0, none⟩ ds'.length c news hx (by rw [t2.len, hwd ds' hw']) lit_cells h1 hne (by unfold maxLen; omega)
    (Nat.le_trans (Nat.mul_le_mul h63 hby) (by decide)) (by simp; omega) _ rfl ?_
  intro g cap w' q1 q2 q3 _
  obtain ⟨r1, r2⟩ := OwnSl.grow hB hr hw ht k1 k2 k3 hb n2 b2 t2 hw' q1 q2 q3
  exact h g cap w' r1 r2
end Go.Proofs.YtpknmldpdoadgaaDoor

/- Own rows of texts. -/
namespace Go.Proofs.YtpknmldpdoadgaaDoor
open Go.RowKit

theorem tyStr : ElemTy Tryd.prog 22 9 1 16 := ElemTy.mk' (z := .string ⟨#[]⟩) Tryd.underlying22 (by kernel_rfl) rfl (by decide)
def strV (l : List UInt8) : Value := .string ⟨l.toArray⟩
theorem OwnR.strRow {w : World} {B e : Nat} {v : Value} {ls : List (List UInt8)} (h : OwnR w B e v (ls.map strV)) : StrRow w v ls := by
  obtain ⟨a, c, rfl⟩ := h.any
  refine ⟨a, c, by simp, fun hne => ?_⟩
  rcases h.form with ⟨_, h2⟩ | ⟨g, c', h2, _⟩
  · simp at h2; exact absurd h2 hne
  · simp only [Value.slice.injEq] at h2
    obtain ⟨rfl, _, rfl⟩ := h2
    refine ⟨g, 0, rfl, fun k hk => ?_⟩
    have := h.cells g rfl k (strV ls[k]) (by simp [hk])
    rwa [add_plain] at this
end Go.Proofs.YtpknmldpdoadgaaDoor

/- The texts among the keys of a map: Keys of both sides, l09Texts, keysIn. -/
namespace Go.Proofs.YtpknmldpdoadgaaDoor
open Go.RowKit

instance : Inhabited V := ⟨.mk 0 0 0 [] []⟩
theorem keysL_length : ∀ xs : List V, (keysL xs).length ≤ xs.length
  | [] => by simp [keysL]
  | [x] => by simp only [keysL]; split <;> simp
  | x :: y :: r => by have := keysL_length r; simp only [keysL]; split <;> simp <;> omega
theorem keysL_step (xs : List V) (j : Nat) (h : j < xs.length) : keysL (xs.drop j) = (if (xs[j]!).kind = 5 then [(xs[j]!).text] else []) ++ keysL (xs.drop (j + 2)) := by
  rw [List.drop_eq_getElem_cons h, getElem!_pos xs j h]
  by_cases h2 : j + 1 < xs.length
  · rw [List.drop_eq_getElem_cons h2, keysL]; split <;> simp
  · rw [List.drop_eq_nil_of_le (show xs.length ≤ j + 1 by omega), List.drop_eq_nil_of_le (show xs.length ≤ j + 2 by omega), keysL]; split <;> simp_all [keysL]

set_option maxHeartbeats 1000000 in
set_option maxRecDepth 10000 in
theorem keys_spec (x : V) (cs : List Value) (w : World) (h0 : Rd w x.d cs) (hl : x.kids.length ≤ 4294967295) :
    Calls Tryd.prog 76 #[.agg cs.toArray] w fun e w' => ∃ v', e = .returned v' ∧ Below w.heap.size w w' ∧ OwnR w' w.heap.size 9 v' (x.keys.map strV) := by
  obtain ⟨k, n, e, s0, xs, v1, rfl, rfl, h⟩ := V.lay h0
  obtain ⟨a, c, rfl, hg⟩ := h.values
  simp only [V.kids] at hl
  have HK := Lib.hid (show V.keys (.mk k n e s0 xs) = if k = 8 then keysL xs else [] from rfl)
  rw [HK.out]
  obtain ⟨tot, htot⟩ : ∃ tot, (if k = 8 then keysL xs else []) = tot := ⟨_, rfl⟩
  rw [htot]
  obtain ⟨W0, hW0⟩ : ∃ W0, W0 = (w.alloc (.cells #[.int .i64 k, .int .i64 n, .int .i64 e, .string ⟨s0.toArray⟩, .slice a xs.length c] 42)).alloc (.cells #[] 9) := ⟨_, rfl⟩
  have HW := Lib.hid hW0
  have hA0 : Below w.heap.size w W0 := by rw [hW0]; exact ((Below.refl _ _).alloc (Nat.le_refl _) _).alloc (by simp) _
  obtain ⟨B, hBd⟩ : ∃ B, B = w.heap.size + 1 := ⟨_, rfl⟩
  have hz0 : w.heap.size < B := by omega
  have hzB : W0.heap.size = B + 1 := by rw [hW0, hBd]; simp
  have hst : OwnR W0 B 9 (.slice (some ⟨w.heap.size + 1, 0, none⟩) 0 0) [] := by
    rw [hW0, hBd]
    have := OwnR.start (w := w.alloc (.cells #[.int .i64 k, .int .i64 n, .int .i64 e, .string ⟨s0.toArray⟩, .slice a xs.length c] 42)) (e := 9)
    simpa using this
  have HST := Lib.hid hst
  have KB : Hid (∀ W, Below B W0 W → W.cell? ⟨w.heap.size, 0, none⟩ = some (.int .i64 k) ∧ W.cell? ⟨w.heap.size, 4, none⟩ = some (.slice a xs.length c)) := by
    intro W hb
    rw [hb.cell (p := ⟨w.heap.size, 0, none⟩) hz0, hb.cell (p := ⟨w.heap.size, 4, none⟩) hz0]
    subst hW0; simp
  have hBw : w.heap.size ≤ B := by omega
  have hgc : ∀ (j : Nat), j < xs.length → ∃ b o, a = some ⟨b, o, none⟩ ∧ b < w.heap.size ∧ w.cell? ⟨b, o + j * 5, none⟩ = some (.int .i64 (xs[j]!).kind) ∧ w.cell? ⟨b, o + j * 5 + 3, none⟩ = some (.string ⟨(xs[j]!).text.toArray⟩) := by
    intro j hj
    obtain ⟨_, _, b, o, rfl, hb, hcell⟩ := hg (by intro e; rw [e] at hj; simp at hj)
    obtain ⟨v0, v1, v2, v3, v4, hr, d0, d1, d2, d3, d4⟩ := hcell j hj
    obtain ⟨k', n', e', s', kids', u, hxe, hcs, _⟩ := V.lay hr
    simp only [List.cons.injEq, and_true] at hcs
    obtain ⟨rfl, rfl, rfl, rfl, rfl⟩ := hcs
    rw [getElem!_pos xs j hj, hxe]
    exact ⟨b, o, rfl, hb, d0, d3⟩
  have HG := Lib.hid hgc
  clear hW0 hst h0 hBd h hg hgc
  go_enter Tryd.func76, Tryd.ntmps76
  go_wp2_with fail
  rw [← HW.out]
  by_cases hk8 : k = 8
  · subst hk8
    rw [if_pos rfl] at htot
    have HTL := Lib.hid (show tot.length ≤ xs.length by rw [← htot]; exact keysL_length xs)
    go_loopw [3, 4] (fun v i wr => ∃ (j : Nat) (acc : List (List UInt8)), 2 * j ≤ xs.length + 1 ∧ i = .int .i64 ((2 * j : Nat) : Int) ∧ OwnR wr B 9 v (acc.map strV) ∧ acc ++ keysL (xs.drop (2 * j)) = tot ∧ Below B W0 wr) (fun _ i _ => xs.length + 2 - (intOf i).toNat)
    case atStart => exact ⟨0, [], by omega, rfl, by simpa using HST.out, by simpa using htot, Below.refl _ _⟩
    case round =>
      obtain ⟨j, acc, hj, rfl, hown, hacc, hbel⟩ := hrel
      obtain ⟨av, cv, rfl⟩ := hown.any
      rw [List.length_map] at hown ⊢
      have hal : acc.length ≤ xs.length := by have := HTL.out; rw [← hacc, List.length_append] at this; omega
      have HA := Lib.hid hacc; clear hacc
      obtain ⟨q, hq⟩ : ∃ q, q = 2 * j := ⟨_, rfl⟩
      have HQ := Lib.hid hq
      rw [← hq]
      obtain ⟨p0, p4⟩ := KB.out _ hbel
      have hsz := hbel.size
      have i1 : (0 : Int) ≤ q := by omega
      have hq9 : q ≤ 4294967297 := by omega
      by_cases hlt : q < xs.length
      · obtain ⟨b, o, rfl, hb, d0, d3⟩ := HG.out q hlt
        have hbw : Below w.heap.size w wr := hA0.trans (hbel.mono hBw)
        rw [← (bcell hbw).1 _ _ hb] at d0 d3
        have i2 : (q : Int) < xs.length := by omega
        have hst := keysL_step xs (2 * j) (by omega)
        have HSTEP := Lib.hid (show keysL (xs.drop (2 * j)) = (if (xs[q]!).kind = 5 then [(xs[q]!).text] else []) ++ keysL (xs.drop (2 * (j + 1))) by rw [hst, HQ.out]; rfl)
        have HJ1 := Lib.hid (show 2 * (j + 1) ≤ xs.length + 1 ∧ ((q : Int) + 2 = ((2 * (j + 1) : Nat) : Int)) ∧ q + 2 ≤ xs.length + 1 by omega)
        clear hst hq hj
        generalize xs[q]! = y at *
        by_cases h5 : y.kind = 5
        · have h5b : (y.kind == 5) = true := by simpa using h5
          have HN := Lib.hid (show (acc ++ [y.text]) ++ keysL (xs.drop (2 * (j + 1))) = tot by rw [← HA.out, HSTEP.out, if_pos h5]; simp)
          rw [h5] at d0
          clear h5
          go_wp2_with (at_builtin; refine wp_appR (ys := [.string ⟨y.text.toArray⟩]) tyStr rfl rfl B (hown.alloc _) rfl ⟨wr.heap.size, 0, none⟩ 1 rfl (cell_one_new _ _ _) (by simp [Value.oneCell']) (by simp; omega) (by decide) (by simp; omega) ?_)
          intro v' w2 hown1 hgr _
          have hbel1 := OwnR.grown (hown.alloc _) (hbel.alloc (by omega) _) hgr (by simp; omega)
          go_wp2
          go_roundw
          case rel => exact ⟨j + 1, acc ++ [y.text], HJ1.out.1, by first | rw [← HJ1.out.2.1] | (rw [← HJ1.out.2.1]; rfl), by simpa [strV] using hown1, HN.out, hbel1⟩
          case measure => have := HJ1.out.2.2; simp [intOf]; omega
        · have h5b : (y.kind == 5) = false := by simpa using h5
          have HN := Lib.hid (show acc ++ keysL (xs.drop (2 * (j + 1))) = tot by rw [← HA.out, HSTEP.out, if_neg h5]; simp)
          clear h5
          go_wp2
          go_roundw
          case rel => exact ⟨j + 1, acc, HJ1.out.1, by first | rw [← HJ1.out.2.1] | (rw [← HJ1.out.2.1]; rfl), hown, HN.out, hbel⟩
          case measure => have := HJ1.out.2.2; simp [intOf]; omega
      · have HE := Lib.hid (show acc = tot by rw [← HA.out, List.drop_eq_nil_of_le (by omega)]; simp [keysL])
        have i2 : ¬ (q : Int) < xs.length := by omega
        have hfin : Below w.heap.size w wr := hA0.trans (hbel.mono hBw)
        clear hq
        go_wp2
        go_ret
        exact ⟨_, rfl, hfin, by rw [← HE.out]; exact ⟨hown.1, hown.2.imp id fun ⟨g, c, cur, h1, h2, h3⟩ => ⟨g, c, cur, h1, Nat.le_trans hBw h2, h3⟩⟩⟩
  · rw [if_neg hk8] at htot
    subst htot
    have hkb : (k == 8) = false := by simpa using hk8
    obtain ⟨p0, p4⟩ := KB.out _ (Below.refl _ _)
    have hfin := hA0
    clear hk8
    go_loopw [3, 4] (fun v i wr => v = .slice (some ⟨w.heap.size + 1, 0, none⟩) 0 0 ∧ i = .int .i64 0 ∧ wr = W0) (fun _ _ _ => 0)
    case atStart => exact ⟨rfl, rfl, rfl⟩
    case round =>
      obtain ⟨rfl, rfl, rfl⟩ := hrel
      by_cases hlt : (0 : Int) < xs.length
      · go_wp2
        go_ret
        exact ⟨_, rfl, hfin, ⟨HST.out.1, HST.out.2.imp id fun ⟨g, c, cur, h1, h2, h3⟩ => ⟨g, c, cur, h1, Nat.le_trans hBw h2, h3⟩⟩⟩
      · go_wp2
        go_ret
        exact ⟨_, rfl, hfin, ⟨HST.out.1, HST.out.2.imp id fun ⟨g, c, cur, h1, h2, h3⟩ => ⟨g, c, cur, h1, Nat.le_trans hBw h2, h3⟩⟩⟩

set_option maxHeartbeats 1000000 in
set_option maxRecDepth 10000 in
theorem keys_impl (x : V) (cs : List Value) (w : World) (h0 : Rd w x.d cs) (hl : x.kids.length ≤ 4294967295) :
    Calls Tryd.prog 81 #[.agg cs.toArray] w fun e w' => ∃ v', e = .returned v' ∧ Below w.heap.size w w' ∧ OwnR w' w.heap.size 9 v' (x.keys.map strV) := by
  obtain ⟨k, n, e, s0, xs, v1, rfl, rfl, h⟩ := V.lay h0
  obtain ⟨a, c, rfl, hg⟩ := h.values
  simp only [V.kids] at hl
  have HK := Lib.hid (show V.keys (.mk k n e s0 xs) = if k = 8 then keysL xs else [] from rfl)
  rw [HK.out]
  obtain ⟨tot, htot⟩ : ∃ tot, (if k = 8 then keysL xs else []) = tot := ⟨_, rfl⟩
  rw [htot]
  obtain ⟨W0, hW0⟩ : ∃ W0, W0 = (w.alloc (.cells #[.int .i64 k, .int .i64 n, .int .i64 e, .string ⟨s0.toArray⟩, .slice a xs.length c] 42)).alloc (.cells #[] 9) := ⟨_, rfl⟩
  have HW := Lib.hid hW0
  have hA0 : Below w.heap.size w W0 := by rw [hW0]; exact ((Below.refl _ _).alloc (Nat.le_refl _) _).alloc (by simp) _
  obtain ⟨B, hBd⟩ : ∃ B, B = w.heap.size + 1 := ⟨_, rfl⟩
  have hz0 : w.heap.size < B := by omega
  have hzB : W0.heap.size = B + 1 := by rw [hW0, hBd]; simp
  have hst : OwnR W0 B 9 (.slice (some ⟨w.heap.size + 1, 0, none⟩) 0 0) [] := by
    rw [hW0, hBd]
    have := OwnR.start (w := w.alloc (.cells #[.int .i64 k, .int .i64 n, .int .i64 e, .string ⟨s0.toArray⟩, .slice a xs.length c] 42)) (e := 9)
    simpa using this
  have HST := Lib.hid hst
  have KB : Hid (∀ W, Below B W0 W → W.cell? ⟨w.heap.size, 0, none⟩ = some (.int .i64 k) ∧ W.cell? ⟨w.heap.size, 4, none⟩ = some (.slice a xs.length c)) := by
    intro W hb
    rw [hb.cell (p := ⟨w.heap.size, 0, none⟩) hz0, hb.cell (p := ⟨w.heap.size, 4, none⟩) hz0]
    subst hW0; simp
  have hBw : w.heap.size ≤ B := by omega
  have hgc : ∀ (j : Nat), j < xs.length → ∃ b o, a = some ⟨b, o, none⟩ ∧ b < w.heap.size ∧ w.cell? ⟨b, o + j * 5, none⟩ = some (.int .i64 (xs[j]!).kind) ∧ w.cell? ⟨b, o + j * 5 + 3, none⟩ = some (.string ⟨(xs[j]!).text.toArray⟩) := by
    intro j hj
    obtain ⟨_, _, b, o, rfl, hb, hcell⟩ := hg (by intro e; rw [e] at hj; simp at hj)
    obtain ⟨v0, v1, v2, v3, v4, hr, d0, d1, d2, d3, d4⟩ := hcell j hj
    obtain ⟨k', n', e', s', kids', u, hxe, hcs, _⟩ := V.lay hr
    simp only [List.cons.injEq, and_true] at hcs
    obtain ⟨rfl, rfl, rfl, rfl, rfl⟩ := hcs
    rw [getElem!_pos xs j hj, hxe]
    exact ⟨b, o, rfl, hb, d0, d3⟩
  have HG := Lib.hid hgc
  clear hW0 hst h0 hBd h hg hgc
  go_enter Tryd.func81, Tryd.ntmps81
  go_wp2_with fail
  rw [← HW.out]
  by_cases hk8 : k = 8
  · subst hk8
    rw [if_pos rfl] at htot
    have HTL := Lib.hid (show tot.length ≤ xs.length by rw [← htot]; exact keysL_length xs)
    go_loopw [3, 4] (fun v i wr => ∃ (j : Nat) (acc : List (List UInt8)), 2 * j ≤ xs.length + 1 ∧ i = .int .i64 ((2 * j : Nat) : Int) ∧ OwnR wr B 9 v (acc.map strV) ∧ acc ++ keysL (xs.drop (2 * j)) = tot ∧ Below B W0 wr) (fun _ i _ => xs.length + 2 - (intOf i).toNat)
    case atStart => exact ⟨0, [], by omega, rfl, by simpa using HST.out, by simpa using htot, Below.refl _ _⟩
    case round =>
      obtain ⟨j, acc, hj, rfl, hown, hacc, hbel⟩ := hrel
      obtain ⟨av, cv, rfl⟩ := hown.any
      rw [List.length_map] at hown ⊢
      have hal : acc.length ≤ xs.length := by have := HTL.out; rw [← hacc, List.length_append] at this; omega
      have HA := Lib.hid hacc; clear hacc
      obtain ⟨q, hq⟩ : ∃ q, q = 2 * j := ⟨_, rfl⟩
      have HQ := Lib.hid hq
      rw [← hq]
      obtain ⟨p0, p4⟩ := KB.out _ hbel
      have hsz := hbel.size
      have i1 : (0 : Int) ≤ q := by omega
      have hq9 : q ≤ 4294967297 := by omega
      by_cases hlt : q < xs.length
      · obtain ⟨b, o, rfl, hb, d0, d3⟩ := HG.out q hlt
        have hbw : Below w.heap.size w wr := hA0.trans (hbel.mono hBw)
        rw [← (bcell hbw).1 _ _ hb] at d0 d3
        have i2 : (q : Int) < xs.length := by omega
        have hst := keysL_step xs (2 * j) (by omega)
        have HSTEP := Lib.hid (show keysL (xs.drop (2 * j)) = (if (xs[q]!).kind = 5 then [(xs[q]!).text] else []) ++ keysL (xs.drop (2 * (j + 1))) by rw [hst, HQ.out]; rfl)
        have HJ1 := Lib.hid (show 2 * (j + 1) ≤ xs.length + 1 ∧ ((q : Int) + 2 = ((2 * (j + 1) : Nat) : Int)) ∧ q + 2 ≤ xs.length + 1 by omega)
        clear hst hq hj
        generalize xs[q]! = y at *
        by_cases h5 : y.kind = 5
        · have h5b : (y.kind == 5) = true := by simpa using h5
          have HN := Lib.hid (show (acc ++ [y.text]) ++ keysL (xs.drop (2 * (j + 1))) = tot by rw [← HA.out, HSTEP.out, if_pos h5]; simp)
          rw [h5] at d0
          clear h5
          go_wp2_with (at_builtin; refine wp_appR (ys := [.string ⟨y.text.toArray⟩]) tyStr rfl rfl B (hown.alloc _) rfl ⟨wr.heap.size, 0, none⟩ 1 rfl (cell_one_new _ _ _) (by simp [Value.oneCell']) (by simp; omega) (by decide) (by simp; omega) ?_)
          intro v' w2 hown1 hgr _
          have hbel1 := OwnR.grown (hown.alloc _) (hbel.alloc (by omega) _) hgr (by simp; omega)
          go_wp2
          go_roundw
          case rel => exact ⟨j + 1, acc ++ [y.text], HJ1.out.1, by first | rw [← HJ1.out.2.1] | (rw [← HJ1.out.2.1]; rfl), by simpa [strV] using hown1, HN.out, hbel1⟩
          case measure => have := HJ1.out.2.2; simp [intOf]; omega
        · have h5b : (y.kind == 5) = false := by simpa using h5
          have HN := Lib.hid (show acc ++ keysL (xs.drop (2 * (j + 1))) = tot by rw [← HA.out, HSTEP.out, if_neg h5]; simp)
          clear h5
          go_wp2
          go_roundw
          case rel => exact ⟨j + 1, acc, HJ1.out.1, by first | rw [← HJ1.out.2.1] | (rw [← HJ1.out.2.1]; rfl), hown, HN.out, hbel⟩
          case measure => have := HJ1.out.2.2; simp [intOf]; omega
      · have HE := Lib.hid (show acc = tot by rw [← HA.out, List.drop_eq_nil_of_le (by omega)]; simp [keysL])
        have i2 : ¬ (q : Int) < xs.length := by omega
        have hfin : Below w.heap.size w wr := hA0.trans (hbel.mono hBw)
        clear hq
        go_wp2
        go_ret
        exact ⟨_, rfl, hfin, by rw [← HE.out]; exact ⟨hown.1, hown.2.imp id fun ⟨g, c, cur, h1, h2, h3⟩ => ⟨g, c, cur, h1, Nat.le_trans hBw h2, h3⟩⟩⟩
  · rw [if_neg hk8] at htot
    subst htot
    have hkb : (k == 8) = false := by simpa using hk8
    obtain ⟨p0, p4⟩ := KB.out _ (Below.refl _ _)
    have hfin := hA0
    clear hk8
    go_loopw [3, 4] (fun v i wr => v = .slice (some ⟨w.heap.size + 1, 0, none⟩) 0 0 ∧ i = .int .i64 0 ∧ wr = W0) (fun _ _ _ => 0)
    case atStart => exact ⟨rfl, rfl, rfl⟩
    case round =>
      obtain ⟨rfl, rfl, rfl⟩ := hrel
      by_cases hlt : (0 : Int) < xs.length
      · go_wp2
        go_ret
        exact ⟨_, rfl, hfin, ⟨HST.out.1, HST.out.2.imp id fun ⟨g, c, cur, h1, h2, h3⟩ => ⟨g, c, cur, h1, Nat.le_trans hBw h2, h3⟩⟩⟩
      · go_wp2
        go_ret
        exact ⟨_, rfl, hfin, ⟨HST.out.1, HST.out.2.imp id fun ⟨g, c, cur, h1, h2, h3⟩ => ⟨g, c, cur, h1, Nat.le_trans hBw h2, h3⟩⟩⟩
end Go.Proofs.YtpknmldpdoadgaaDoor

/- Small laws on values that are read, and on made slices. No program in sight. -/
namespace Go.Proofs.YtpknmldpdoadgaaDoor
open Go.RowKit

/-- make([]T, 0, n) -/
theorem run_mk0 {P : Program} {t e : TypeId} {size bytes : Nat} (T : ElemTy P t e size bytes) (n : Nat) (hn : n ≤ 4294967296) (hb : bytes ≤ 32768) :
    ∃ cs : Array Value, cs.size = n * size ∧ ∀ w : World, (Instr.makeSlice t (.int .i64 0) (.int .i64 (n : Nat))).run P w = .ok (.slice (some ⟨w.heap.size, 0, none⟩) 0 n) (w.alloc (.cells cs e)) := by
  obtain ⟨i, z, h1, h2, h3, h4, h5⟩ := T.info
  refine ⟨madeCells z.cells (n * i.size), ?_, fun w => ?_⟩
  · rw [size_madeCells, h3]
  · have := run_make (P := P) w t e i z T.under h1 h2 .i64 .i64 0 (n : Nat) (by omega) (by omega) (by
      rw [h4]; have := Nat.mul_le_mul hb hn; have h : ((bytes * n : Nat) : Int) ≤ ((32768 * 4294967296 : Nat) : Int) := by exact_mod_cast this
      rw [Int.natCast_mul] at h; exact Int.le_trans h (by decide)) (by omega)
    simpa using this
theorem V.cells_one {w : World} {x : V} {cs : List Value} (h : Rd w x.d cs) : ∀ u ∈ cs, u.oneCell' = true := by
  obtain ⟨k, n, e, s, a, l, c, rfl⟩ := V.form h
  intro u hu; simp at hu; rcases hu with rfl | rfl | rfl | rfl | rfl <;> rfl

theorem V.bulk_getB {ls : List V} {m : Nat} (h : ls.length + V.bulks ls ≤ m) (k : Nat) (hk : k < ls.length) : ls[k].bulk ≤ m := by
  have h1 := V.bulks_snoc ls k hk; have h2 := V.bulks_take ls (k + 1); omega
theorem V.ds_take (xs : List V) (j : Nat) (h : j < xs.length) : V.ds (xs.take (j + 1)) = V.ds (xs.take j) ++ [xs[j].d] := by
  rw [V.ds_map, V.ds_map, take_map_snoc V.d xs j h]
theorem V.ds_length (xs : List V) : (V.ds xs).length = xs.length := by rw [V.ds_map, List.length_map]
end Go.Proofs.YtpknmldpdoadgaaDoor

/- Whether all keys of a map are texts: l09Texts, keysIn. -/
namespace Go.Proofs.YtpknmldpdoadgaaDoor
open Go.RowKit

theorem V.keys_length (x : V) : x.keys.length ≤ x.kids.length := by
  unfold V.keys; split
  · exact keysL_length _
  · simp
theorem OwnR.mono {w : World} {B B' e : Nat} {v : Value} {xs : List Value} (h : OwnR w B e v xs) (hB : B' ≤ B) : OwnR w B' e v xs :=
  ⟨h.1, h.2.imp id fun ⟨g, c, cur, h1, h2, h3⟩ => ⟨g, c, cur, h1, Nat.le_trans hB h2, h3⟩⟩
set_option maxHeartbeats 1000000 in
set_option maxRecDepth 10000 in
theorem texts_spec (x : V) (cs : List Value) (w : World) (h : Rd w x.d cs) (hl : x.kids.length ≤ 4294967295) :
    Calls Tryd.prog 56 #[.agg cs.toArray] w fun e w' => e = .returned (.bool x.texts) ∧ Below w.heap.size w w' := by
  obtain ⟨k, n, e, s0, xs, v1, rfl, rfl, h1⟩ := V.lay h
  obtain ⟨a, c, rfl⟩ := Rd.sl_form h1
  rw [V.ds_length] at h h1 ⊢
  simp only [V.kids] at hl
  obtain ⟨W0, hW0⟩ : ∃ W0, W0 = w.alloc (.cells #[.int .i64 k, .int .i64 n, .int .i64 e, .string ⟨s0.toArray⟩, .slice a xs.length c] 42) := ⟨_, rfl⟩
  have HW := Lib.hid hW0
  have hA0 : Below w.heap.size w W0 := by rw [hW0]; exact (Below.refl _ _).alloc (Nat.le_refl _) _
  have hz : w.heap.size < W0.heap.size := by rw [hW0]; simp
  have KB : Hid (∀ W, Below W0.heap.size W0 W → W.cell? ⟨w.heap.size, 0, none⟩ = some (.int .i64 k) ∧ W.cell? ⟨w.heap.size, 1, none⟩ = some (.int .i64 n) ∧ W.cell? ⟨w.heap.size, 2, none⟩ = some (.int .i64 e) ∧ W.cell? ⟨w.heap.size, 3, none⟩ = some (.string ⟨s0.toArray⟩) ∧ W.cell? ⟨w.heap.size, 4, none⟩ = some (.slice a xs.length c)) := by
    intro W hb
    obtain ⟨hc, _⟩ := bcell hb
    simp only [hc _ _ hz]
    subst hW0; simp [go_sem]
  have HX := Lib.hid (show V.texts (.mk k n e s0 xs) = (decide (k = 8) && decide (2 * (V.keys (.mk k n e s0 xs)).length = xs.length)) from rfl)
  rw [HX.out]
  obtain ⟨ks, hks⟩ : ∃ ks, V.keys (.mk k n e s0 xs) = ks := ⟨_, rfl⟩
  rw [hks]
  have hkl : ks.length ≤ xs.length := by rw [← hks]; exact V.keys_length _
  have HC := fun W (hb : Below W0.heap.size W0 W) => Lib.hid (keys_spec (.mk k n e s0 xs) _ W (h.below (below2 hA0 hb (Nat.le_refl _))) (by simpa only [V.kids] using hl))
  rw [hks] at HC
  have hB := Below.refl W0.heap.size W0
  clear hW0 h h1 hks
  go_enter Tryd.func56, Tryd.ntmps56
  go_wp2_with fail
  rw [← HW.out]
  obtain ⟨p0, p1, p2, p3, p4⟩ := KB.out _ hB
  by_cases hk : k = 8
  · subst hk
    have e1 : IntKind.i64.wrap (2 * (ks.length : Int)) = 2 * (ks.length : Int) := IntWalk.i64_in _ (by omega)
    clear p0 p1 p2 p3 p4
    go_region_held3 (fun W => W.cell? ⟨w.heap.size, 0, none⟩ = some (.int .i64 8) ∧ W.cell? ⟨w.heap.size, 1, none⟩ = some (.int .i64 n) ∧ W.cell? ⟨w.heap.size, 2, none⟩ = some (.int .i64 e) ∧ W.cell? ⟨w.heap.size, 3, none⟩ = some (.string ⟨s0.toArray⟩) ∧ W.cell? ⟨w.heap.size, 4, none⟩ = some (.slice a xs.length c))
      (first | exact KB.out _ hB | exact KB.out _ hB.drew)
      (first | (go_at_call 76; with_reducible refine (HC _ (by first | exact hB | exact hB.drew)).out.mono ?_; rintro e1 w1 ⟨v', rfl, hb1, hown⟩; obtain ⟨av, cv, rfl⟩ := hown.any; rw [List.length_map]; replace hB := below2 (by first | exact hB | exact hB.drew) hb1 (Nat.le_refl _)))
    go_wp2
    go_ret
    refine ⟨?_, below2 hA0 hB (Nat.le_refl _)⟩
    simp only [decide_true, Bool.true_and]
    first | (congr 2; rw [Bool.eq_iff_iff]; simp; omega) | (simp; rw [Bool.eq_iff_iff]; simp; omega)
  · have hkb : (k == 8) = false := by simpa using hk
    go_region
    all_goals
      go_wp2
      go_ret
      exact ⟨by rw [decide_eq_false hk]; rfl, by first | exact hA0 | exact hA0.drew⟩
set_option maxHeartbeats 1000000 in
set_option maxRecDepth 10000 in
theorem keysIn_any (x : V) (cs : List Value) (w : World) (h : Rd w x.d cs) (hl : x.kids.length ≤ 4294967295) :
    Calls Tryd.prog 59 #[.agg cs.toArray] w fun e w' => ∃ v', e = .returned (.tuple #[v', .bool x.texts]) ∧ Below w.heap.size w w' ∧ OwnR w' w.heap.size 9 v' (x.keys.map strV) := by
  obtain ⟨k, n, e, s0, xs, v1, rfl, rfl, h1⟩ := V.lay h
  obtain ⟨a, c, rfl⟩ := Rd.sl_form h1
  rw [V.ds_length] at h h1 ⊢
  simp only [V.kids] at hl
  obtain ⟨W0, hW0⟩ : ∃ W0, W0 = w.alloc (.cells #[.int .i64 k, .int .i64 n, .int .i64 e, .string ⟨s0.toArray⟩, .slice a xs.length c] 42) := ⟨_, rfl⟩
  have HW := Lib.hid hW0
  have hA0 : Below w.heap.size w W0 := by rw [hW0]; exact (Below.refl _ _).alloc (Nat.le_refl _) _
  have hz : w.heap.size < W0.heap.size := by rw [hW0]; simp
  have KB : Hid (∀ W, Below W0.heap.size W0 W → W.cell? ⟨w.heap.size, 0, none⟩ = some (.int .i64 k) ∧ W.cell? ⟨w.heap.size, 1, none⟩ = some (.int .i64 n) ∧ W.cell? ⟨w.heap.size, 2, none⟩ = some (.int .i64 e) ∧ W.cell? ⟨w.heap.size, 3, none⟩ = some (.string ⟨s0.toArray⟩) ∧ W.cell? ⟨w.heap.size, 4, none⟩ = some (.slice a xs.length c)) := by
    intro W hb
    obtain ⟨hc, _⟩ := bcell hb
    simp only [hc _ _ hz]
    subst hW0; simp [go_sem]
  have HX := Lib.hid (show V.texts (.mk k n e s0 xs) = (decide (k = 8) && decide (2 * (V.keys (.mk k n e s0 xs)).length = xs.length)) from rfl)
  rw [HX.out]
  obtain ⟨ks, hks⟩ : ∃ ks, V.keys (.mk k n e s0 xs) = ks := ⟨_, rfl⟩
  rw [hks]
  have hkl : ks.length ≤ xs.length := by rw [← hks]; exact V.keys_length _
  have HC := fun W (hb : Below W0.heap.size W0 W) => Lib.hid (keys_impl (.mk k n e s0 xs) _ W (h.below (below2 hA0 hb (Nat.le_refl _))) (by simpa only [V.kids] using hl))
  rw [hks] at HC
  have hB := Below.refl W0.heap.size W0
  clear hW0 h h1 hks
  go_enter Tryd.func59, Tryd.ntmps59
  go_wp2_with fail
  rw [← HW.out]
  obtain ⟨p0, p1, p2, p3, p4⟩ := KB.out _ hB
  go_wp2_with (go_at_call 81; refine (HC _ hB).out.mono ?_; rintro e1 w1 ⟨v', rfl, hb1, hown⟩; obtain ⟨av, cv, rfl⟩ := hown.any; rw [List.length_map])
  have hz1 := hb1.size
  clear p0 p1 p2 p3 p4
  obtain ⟨p0, p1, p2, p3, p4⟩ := KB.out _ hb1
  have hownB : OwnR w1 w.heap.size 9 (.slice av ks.length cv) (ks.map strV) := by have := hown.mono (B' := w.heap.size) (by omega); rwa [List.length_map] at this
  by_cases hk : k = 8
  · subst hk
    have e1 : IntKind.i64.wrap (2 * (ks.length : Int)) = 2 * (ks.length : Int) := IntWalk.i64_in _ (by omega)
    go_quiet (fail)
    go_wp2
    go_ret2
    refine ⟨.slice av ks.length cv, ?_, by first | exact below2 hA0 hb1 (Nat.le_refl _) | exact (below2 hA0 hb1 (Nat.le_refl _)).drew | exact below_drewN (below2 hA0 hb1 (Nat.le_refl _)) _, by first | exact hownB | exact hownB.below ((Below.refl _ _).drew) | exact hownB.below (below_drewN (Below.refl _ _) _)⟩
    simp only [decide_true, Bool.true_and]
    first | rfl | (simp; omega) | (congr 3; rw [Bool.eq_iff_iff]; simp; omega) | (simp; rw [Bool.eq_iff_iff]; simp; omega)
  · have hkb : (k == 8) = false := by simpa using hk
    go_region
    all_goals
      go_wp2
      go_ret2
      exact ⟨.slice av ks.length cv, by rw [decide_eq_false hk]; rfl, by first | exact below2 hA0 hb1 (Nat.le_refl _) | exact (below2 hA0 hb1 (Nat.le_refl _)).drew, by first | exact hownB | exact hownB.below ((Below.refl _ _).drew)⟩
end Go.Proofs.YtpknmldpdoadgaaDoor

/- The text of a path: the reference's PutPath. -/
namespace Go.Proofs.YtpknmldpdoadgaaDoor
open Go.RowKit
open Go.Lib (validD)

def esc1 (b : UInt8) : List UInt8 := if b = 126 then [126, 48] else if b = 47 then [126, 49] else [b]
def esc (s : List UInt8) : List UInt8 := s.flatMap esc1
def pathL (st : List (List UInt8)) : List UInt8 := st.flatMap fun s => 47 :: esc s
def stepOk (s : List UInt8) : Bool := validD s && decide (s.length ≤ 2000)
def putPath (st : List (List UInt8)) : List UInt8 := if st.length ≤ 12 ∧ st.all stepOk = true then pathL st else []
theorem esc1_length (b : UInt8) : (esc1 b).length ≤ 2 := by unfold esc1; split; · simp
                                                            split <;> simp
theorem esc_length : ∀ s : List UInt8, (esc s).length ≤ 2 * s.length
  | [] => by simp [esc]
  | b :: s => by have := esc_length s; have := esc1_length b; simp only [esc, List.flatMap_cons, List.length_append, List.length_cons] at *; omega
theorem pathL_length : ∀ st : List (List UInt8), st.all stepOk = true → (pathL st).length ≤ 4001 * st.length
  | [], _ => by simp [pathL]
  | s :: st, h => by
    simp only [List.all_cons, Bool.and_eq_true] at h
    have h1 := pathL_length st h.2
    have h2 := esc_length s
    have h3 : s.length ≤ 2000 := by have := h.1; unfold stepOk at this; simp only [Bool.and_eq_true, decide_eq_true_eq] at this; exact this.2
    simp only [pathL, List.flatMap_cons, List.length_append, List.length_cons] at *; omega
theorem pathL_take (st : List (List UInt8)) (j : Nat) (h : j < st.length) : pathL (st.take (j + 1)) = pathL (st.take j) ++ (47 :: esc st[j]) := by
  unfold pathL; rw [List.take_succ_eq_append_getElem h, List.flatMap_append, List.flatMap_singleton]
theorem esc_take (s : List UInt8) (j : Nat) (h : j < s.length) : esc (s.take (j + 1)) = esc (s.take j) ++ esc1 s[j] := by
  unfold esc; rw [List.take_succ_eq_append_getElem h, List.flatMap_append, List.flatMap_singleton]
theorem putPath_no {st : List (List UInt8)} {j : Nat} (h : j < st.length) (hn : stepOk st[j] = false) : putPath st = [] := by
  unfold putPath; rw [if_neg]; rintro ⟨_, h2⟩
  rw [List.all_eq_true] at h2; rw [h2 _ (List.getElem_mem h)] at hn; cases hn
theorem putPath_long {st : List (List UInt8)} (h : ¬ st.length ≤ 12) : putPath st = [] := by
  unfold putPath; rw [if_neg]; exact fun h2 => h h2.1

theorem OwnB.keep {w w' : World} {B u8 : Nat} {v : Value} {l : List UInt8} (h : OwnB w B u8 v l) (hb : Below w.heap.size w w') : OwnB w' B u8 v l := by
  refine ⟨h.1, ?_⟩
  rcases h.2 with h2 | ⟨g, cap, cur, hv, hg, hh, r⟩
  · exact .inl h2
  · exact .inr ⟨g, cap, cur, hv, hg, by rw [hb.block g (heap_lt hh)]; exact hh, r⟩
theorem tyBp : ElemTy Tryd.prog 87 5 1 1 := ElemTy.mk' (z := .int .u8 0) Tryd.underlying87 (by kernel_rfl) rfl (by decide)
theorem esc1_cell (b : UInt8) : (b = 126 ∧ esc1 b = [126, 48]) ∨ (b ≠ 126 ∧ b = 47 ∧ esc1 b = [126, 49]) ∨ (b ≠ 126 ∧ b ≠ 47 ∧ esc1 b = [b]) := by
  by_cases h1 : b = 126
  · exact .inl ⟨h1, by rw [h1]; rfl⟩
  · by_cases h2 : b = 47
    · exact .inr (.inl ⟨h1, h2, by rw [h2]; rfl⟩)
    · exact .inr (.inr ⟨h1, h2, by unfold esc1; rw [if_neg h1, if_neg h2]⟩)

end Go.Proofs.YtpknmldpdoadgaaDoor

/- Rows of steps that have a place in memory; the reference's l09Step. -/
namespace Go.Proofs.YtpknmldpdoadgaaDoor
open Go.RowKit

/-- a row of texts from a block's first cell on -/
def StrA (w : World) (v : Value) (st : List (List UInt8)) : Prop :=
  ∃ g c, v = .slice (some ⟨g, 0, none⟩) st.length c ∧ ∀ k (h : k < st.length), w.cell? ⟨g, k, none⟩ = some (.string ⟨st[k].toArray⟩)
theorem StrA.row {w : World} {v : Value} {st : List (List UInt8)} (h : StrA w v st) : StrRow w v st := by
  obtain ⟨g, c, rfl, h⟩ := h
  exact ⟨_, c, rfl, fun _ => ⟨g, 0, rfl, fun k hk => by rw [Nat.zero_add]; exact h k hk⟩⟩
theorem StrA.below {w w' : World} {v : Value} {st : List (List UInt8)} (h : StrA w v st) (hb : Below w.heap.size w w') : StrA w' v st := by
  obtain ⟨g, c, rfl, h⟩ := h
  exact ⟨g, c, rfl, fun k hk => by have := h k hk; rw [(bcell hb).1 _ _ (cell_lt this)]; exact this⟩
theorem StrA.drew {w : World} {v : Value} {st : List (List UInt8)} (h : StrA w v st) : StrA w.drew v st := h.below (Below.refl _ _).drew
theorem StrA.empty {w : World} : StrA (w.alloc (.cells #[] 9)) (.slice (some ⟨w.heap.size, 0, none⟩) 0 0) [] := ⟨_, _, rfl, fun k h => absurd h (by simp)⟩
theorem OwnR.strA {w : World} {B e : Nat} {v : Value} {ls : List (List UInt8)} (h : OwnR w B e v (ls.map strV)) (hn : v ≠ .slice none 0 0) : StrA w v ls := by
  rcases h.form with ⟨h1, _⟩ | ⟨g, c, h2, _⟩
  · exact absurd h1 hn
  · refine ⟨g, c, by rw [h2, List.length_map], fun k hk => ?_⟩
    have := h.cells g (by rw [h2]; rfl) k (strV ls[k]) (by simp [hk])
    rw [add_plain, Nat.zero_add] at this; exact this
theorem StrA.news {w : World} {g : Nat} {st : List (List UInt8)} (h : ∀ k (h : k < st.length), w.cell? ⟨g, k, none⟩ = some (.string ⟨st[k].toArray⟩)) : ∀ j u, (st.map strV)[j]? = some u → w.cell? ((⟨g, 0, none⟩ : Addr).add j) = some u := by
  intro j u hj
  rw [List.getElem?_map] at hj
  by_cases hl : j < st.length
  · rw [List.getElem?_eq_getElem hl] at hj; simp at hj; subst hj
    rw [add_plain, Nat.zero_add]; exact h j hl
  · rw [List.getElem?_eq_none (by omega)] at hj; simp at hj
theorem strV_one (st : List (List UInt8)) : ∀ u ∈ st.map strV, u.oneCell' = true := by
  intro u hu; rw [List.mem_map] at hu; obtain ⟨b, _, rfl⟩ := hu; rfl

end Go.Proofs.YtpknmldpdoadgaaDoor

/- Whether a map has the keys of a shape: the reference's l15Has. -/
namespace Go.Proofs.YtpknmldpdoadgaaDoor
open Go.RowKit

theorem allIn_cut {a b : List (List UInt8)} {j : Nat} (h : j < a.length) (hn : a[j] ∉ b) : allIn a b = false := by
  cases ht : allIn a b with
  | false => rfl
  | true => unfold allIn at ht; rw [List.all_eq_true] at ht; exact absurd (of_decide_eq_true (ht _ (List.getElem_mem h))) hn
theorem allIn_take {a b : List (List UInt8)} {j : Nat} (h : j < a.length) (hp : allIn (a.take j) b = true) (hn : a[j] ∈ b) : allIn (a.take (j + 1)) b = true := by
  unfold allIn at hp ⊢
  rw [List.take_succ_eq_append_getElem h, List.all_append, hp]; simp [hn]
theorem V.keys_ok {x : V} (hl : x.kids.length ≤ 4294967295) : x.keys.length ≤ 4294967295 := Nat.le_trans x.keys_length hl

end Go.Proofs.YtpknmldpdoadgaaDoor

/- The box of a value in a local variable. -/
namespace Go.Proofs.YtpknmldpdoadgaaDoor
open Go.RowKit

def valBox (w : World) (g : Nat) (k n e : Int) (s : List UInt8) (v : Value) : Prop := w.heap[g]? = some (.cells #[.int .i64 k, .int .i64 n, .int .i64 e, .string ⟨s.toArray⟩, v] 42 (0, 0))
theorem valBox.lt {w : World} {g : Nat} {k n e : Int} {s : List UInt8} {v : Value} (h : valBox w g k n e s v) : g < w.heap.size := heap_lt h
theorem valBox.cells {w : World} {g : Nat} {k n e : Int} {s : List UInt8} {v : Value} (h : valBox w g k n e s v) : w.cell? ⟨g, 0, none⟩ = some (.int .i64 k) ∧ w.cell? ⟨g, 1, none⟩ = some (.int .i64 n) ∧ w.cell? ⟨g, 2, none⟩ = some (.int .i64 e) ∧ w.cell? ⟨g, 3, none⟩ = some (.string ⟨s.toArray⟩) ∧ w.cell? ⟨g, 4, none⟩ = some v := by
  refine ⟨?_, ?_, ?_, ?_, ?_⟩ <;> (rw [cell_of_block h]; rfl)
theorem valBox.free {w : World} {g : Nat} {k n e : Int} {s : List UInt8} {v : Value} (h : valBox w g k n e s v) (o : Nat) : w.frozen? ⟨g, o, none⟩ = false := by simp [World.frozen?, show w.heap[g]? = _ from h]
theorem valBox.same {w w' : World} {g : Nat} {k n e : Int} {s : List UInt8} {v : Value} (h : valBox w g k n e s v) (hs : w'.heap[g]? = w.heap[g]?) : valBox w' g k n e s v := hs.trans h
theorem valBox.below {B : Nat} {w w' : World} {g : Nat} {k n e : Int} {s : List UInt8} {v : Value} (h : valBox w g k n e s v) (hb : Below B w w') (hg : g < B) : valBox w' g k n e s v := h.same (hb.block g hg)
theorem valBox.new {w : World} {k n e : Int} {s : List UInt8} {v : Value} : valBox (w.alloc (.cells #[.int .i64 k, .int .i64 n, .int .i64 e, .string ⟨s.toArray⟩, v] 42)) w.heap.size k n e s v := heap_alloc_new w _
theorem valBox.alloc {w : World} {g : Nat} {k n e : Int} {s : List UInt8} {v : Value} (h : valBox w g k n e s v) (o : Obj) : valBox (w.alloc o) g k n e s v := h.same (Below.heap_alloc _ _ _ h.lt)
theorem valBox.set4 {w : World} {g : Nat} {k n e : Int} {s : List UInt8} {v : Value} (h : valBox w g k n e s v) (u : Value) : valBox (w.setCell ⟨g, 4, none⟩ u) g k n e s u := by
  have := heap_setCell_at (o := 4) h u
  exact this
/-- from block B on anything may be new, and block g below it may be written -/
theorem Keep.belowB {S : Nat → Prop} {a b c : World} {B : Nat} (h : Keep S a b) (k : Below B b c) (hB : a.heap.size ≤ B) : Keep S a c :=
  ⟨k.os.trans h.os, k.tape.trans h.tape, k.output.trans h.output, Nat.le_trans h.size k.size, fun i hi hs => (k.block i (Nat.lt_of_lt_of_le hi hB)).trans (h.block i hi hs)⟩
end Go.Proofs.YtpknmldpdoadgaaDoor

/- An append of a row of texts, which may be nil or empty, to a row of the call's own; rows of texts as data of the call's own; the box of a shape. -/
namespace Go.Proofs.YtpknmldpdoadgaaDoor
open Go.RowKit

theorem run_app_none {P : Program} {w : World} (base : Nat) (t ty e : TypeId) (i : TypeInfo) (size : Nat) (ht : P.underlying t = some (.slice e)) (hi : P.info? e = some i)
    (v : Value) (n : Nat) (xs : List Value) (hown : w.ownsRow base e size v n xs) (c : Nat) :
    (Builtin.append_ #[t, t] ty #[v, .slice none 0 c]).run P w = .ok v w := by
  rcases hown.2 with ⟨rfl, rfl⟩ | ⟨g, cap, cur, rfl, _, _, hnc, _⟩
  · simp [Builtin.append_, run_underlying ht, sizeOf, typeInfo, hi, Builtin.lenOf, Builtin.firstCells]
  · simp [Builtin.append_, run_underlying ht, sizeOf, typeInfo, hi, Builtin.lenOf, Builtin.firstCells, hnc, storeCells]
/-- append(own, texts...) -/
theorem wp_appS {P : Program} {ops : Array Oper} {rest : List Oper} {o : Oper} {a : Act} {w : World} {Q : Exit → Act → World → Prop} {t e : TypeId} {bytes : Nat} {s x : Operand} {v v2 : Value} {xs : List Value} {ls : List (List UInt8)}
    (T : ElemTy P t e 1 bytes) (hgd : o.guard = none) (ho : o.op = .call { callee := .builtin .append, args := #[s, x], argTypes := #[t, t] })
    (B : Nat) (hown : OwnR w B e v xs) (hs : a.eval s = v) (hsrc : StrRow w v2 ls) (hx : a.eval x = v2)
    (h63 : xs.length + ls.length ≤ 4294967296) (hby : bytes ≤ 32768) (hB : B ≤ w.heap.size)
    (h : ∀ v' w', OwnR w' B e v' (xs ++ ls.map strV) → w.grownBy w' v.ownBlock → (v' = .slice none 0 0 → v = .slice none 0 0) → wpList P ops Q rest (a.put o.dst v') w') : wpList P ops Q (o :: rest) a w := by
  obtain ⟨ao, c, rfl, hg⟩ := hsrc
  have hlen : (ls.map strV).length = ls.length := List.length_map _
  cases ao with
  | some ad =>
    refine wp_appR (ys := ls.map strV) T hgd ho B hown hs ad c (by rw [hx, hlen]) ?_ (strV_one ls) (by rw [hlen]; exact h63) hby hB h
    intro j u hj
    rw [List.getElem?_map] at hj
    by_cases hl : j < ls.length
    · obtain ⟨b, o', hb, hc⟩ := hg (by intro e; rw [e] at hl; simp at hl)
      simp only [Option.some.injEq] at hb; subst hb
      rw [List.getElem?_eq_getElem hl] at hj; simp at hj; subst hj
      rw [add_plain]; exact hc j hl
    · rw [List.getElem?_eq_none (by omega)] at hj; simp at hj
  | none =>
    have h0 : ls = [] := by
      by_cases h0 : ls = []
      · exact h0
      · obtain ⟨b, o', hb, _⟩ := hg h0; cases hb
    subst h0
    obtain ⟨i, z, g1, g2, g3, g4, g5⟩ := T.info
    refine wpList_plain hgd fun K hK => ?_
    have hrun := run_app_none (P := P) (w := w) B t o.type e i 1 T.under g1 v xs.length xs hown c
    unfold Oper.wp
    have hx' : a.eval x = .slice none 0 c := hx
    simp [execOp, ho, resolve, invoke, builtin, hs, hx', hrun, Result.andThen]
    exact hK _ _ (h v w (by simpa using hown) ⟨rfl, rfl, rfl, Nat.le_refl _, fun _ _ _ => rfl⟩ id)

theorem trees_strs {w : World} : ∀ ks : List (List UInt8), TreeCs w (ks.map dS) [] (ks.map strV)
  | [] => by simp [TreeCs]
  | k :: ks => by
    simp only [List.map_cons, TreeCs]
    exact ⟨[], [], [strV k], ks.map strV, by simp, rfl, rfl, ⟨rfl, rfl⟩, trees_strs ks⟩
theorem OwnR.ownStrs {w : World} {B e : Nat} {v : Value} {ks : List (List UInt8)} (h : OwnR w B e v (ks.map strV)) : Own B w (dSs ks) [v] := by
  unfold dSs
  refine OwnSl.own (e := e) (n := 1) ⟨ks.map strV, [], ?_, ?_, trees_strs ks, by simp, by simp, by simp⟩ (by decide)
  · have := h; unfold OwnR at this; simpa using this
  · intro d hd; rw [List.mem_map] at hd; obtain ⟨s, _, rfl⟩ := hd; rfl

/-- the box of a shape in a local variable -/
def shBox (w : World) (g : Nat) (k l h : Int) (v1 : Value) (m : Int) (v2 : Value) : Prop := w.heap[g]? = some (.cells #[.int .i64 k, .int .i64 l, .int .i64 h, v1, .int .i64 m, v2] 29 (0, 0))
theorem shBox.lt {w : World} {g : Nat} {k l h m : Int} {v1 v2 : Value} (hb : shBox w g k l h v1 m v2) : g < w.heap.size := heap_lt hb
theorem shBox.cells {w : World} {g : Nat} {k l h m : Int} {v1 v2 : Value} (hb : shBox w g k l h v1 m v2) : w.cell? ⟨g, 0, none⟩ = some (.int .i64 k) ∧ w.cell? ⟨g, 1, none⟩ = some (.int .i64 l) ∧ w.cell? ⟨g, 2, none⟩ = some (.int .i64 h) ∧ w.cell? ⟨g, 3, none⟩ = some v1 ∧ w.cell? ⟨g, 4, none⟩ = some (.int .i64 m) ∧ w.cell? ⟨g, 5, none⟩ = some v2 := by
  refine ⟨?_, ?_, ?_, ?_, ?_, ?_⟩ <;> (rw [cell_of_block hb]; rfl)
theorem shBox.free {w : World} {g : Nat} {k l h m : Int} {v1 v2 : Value} (hb : shBox w g k l h v1 m v2) (o : Nat) : w.frozen? ⟨g, o, none⟩ = false := by simp [World.frozen?, show w.heap[g]? = _ from hb]
theorem shBox.same {w w' : World} {g : Nat} {k l h m : Int} {v1 v2 : Value} (hb : shBox w g k l h v1 m v2) (hs : w'.heap[g]? = w.heap[g]?) : shBox w' g k l h v1 m v2 := hs.trans hb
theorem shBox.below {w w' : World} {B g : Nat} {k l h m : Int} {v1 v2 : Value} (hb : shBox w g k l h v1 m v2) (hk : Below B w w') (hg : g < B) : shBox w' g k l h v1 m v2 := hb.same (hk.block g hg)
theorem shBox.alloc {w : World} {g : Nat} {k l h m : Int} {v1 v2 : Value} (hb : shBox w g k l h v1 m v2) (o : Obj) : shBox (w.alloc o) g k l h v1 m v2 := hb.same (Below.heap_alloc _ _ _ hb.lt)
theorem shBox.new {w : World} {k l h m : Int} {v1 v2 : Value} : shBox (w.alloc (.cells #[.int .i64 k, .int .i64 l, .int .i64 h, v1, .int .i64 m, v2] 29)) w.heap.size k l h v1 m v2 := heap_alloc_new w _
theorem shBox.set3 {w : World} {g : Nat} {k l h m : Int} {v1 v2 : Value} (hb : shBox w g k l h v1 m v2) (u : Value) : shBox (w.setCell ⟨g, 3, none⟩ u) g k l h u m v2 := by
  have := heap_setCell_at (o := 3) hb u
  exact this
theorem shBox.set5 {w : World} {g : Nat} {k l h m : Int} {v1 v2 : Value} (hb : shBox w g k l h v1 m v2) (u : Value) : shBox (w.setCell ⟨g, 5, none⟩ u) g k l h v1 m u := by
  have := heap_setCell_at (o := 5) hb u
  exact this
end Go.Proofs.YtpknmldpdoadgaaDoor

/- An append to a row of the call's own inside a region that draws its order. No program in sight. -/
namespace Go.Proofs.YtpknmldpdoadgaaDoor
open Go.RowKit

theorem step_appR {P : Program} {ops : Array Oper} {o : Oper} {a : Act} {w : World} {K : Act → World → Prop} {Q : Exit → Act → World → Prop} {E : Prop} {t e : TypeId} {bytes : Nat} {s x : Operand} {v : Value} {xs ys : List Value}
    (T : ElemTy P t e 1 bytes) (hgd : o.guard = none) (ho : o.op = .call { callee := .builtin .append, args := #[s, x], argTypes := #[t, t] })
    (B : Nat) (hown : OwnR w B e v xs) (hs : a.eval s = v) (ad : Addr) (c : Nat) (hx : a.eval x = .slice (some ad) ys.length c)
    (hnews : ∀ j u, ys[j]? = some u → w.cell? (ad.add j) = some u) (h1 : ∀ u ∈ ys, u.oneCell' = true) (hy : 0 < ys.length)
    (h63 : xs.length + ys.length ≤ 4294967296) (hby : bytes ≤ 32768) (hB : B ≤ w.heap.size)
    (h : ∀ v' w', OwnR w' B e v' (xs ++ ys) → w.grownBy w' v.ownBlock → K (a.put o.dst v') w') :
    if Region.wanted o (yielded ops a.tmps) = true then Oper.wp P o a w K Q else E := by
  obtain ⟨i, z, h1', h2, h3, h4, h5⟩ := T.info
  refine step_append_lies w hgd s x t ho B e i z 1 bytes T.under h1' h2 h3 h4 h5 T.pos v xs.length xs hs hown ad ys.length c ys hx (by simp) hnews h1 hy (by unfold maxLen; omega)
    (Nat.le_trans (Nat.mul_le_mul h63 hby) (by decide)) hB w.heap.size rfl ?_
  intro g cap w' h1 h2 h3 h4
  refine h _ w' ?_ h2
  unfold OwnR
  rw [List.length_append]; exact h1
theorem step_appB {P : Program} {ops : Array Oper} {o : Oper} {a : Act} {w : World} {K : Act → World → Prop} {Q : Exit → Act → World → Prop} {E : Prop} {t u8 : TypeId} {s x : Operand} {v : Value} {l r : List UInt8}
    (T : ElemTy P t u8 1 1) (hgd : o.guard = none) (ho : o.op = .call { callee := .builtin .append, args := #[s, x], argTypes := #[t, t] })
    (B : Nat) (hown : OwnB w B u8 v l) (hs : a.eval s = v) (ad : Addr) (c : Nat) (hx : a.eval x = .slice (some ad) r.length c)
    (hnews : ∀ j u, (r.map fun b => Value.int .u8 ((b.toNat : Nat) : Int))[j]? = some u → w.cell? (ad.add j) = some u) (hy : 0 < r.length)
    (h63 : l.length + r.length ≤ 4294967296) (hB : B ≤ w.heap.size)
    (h : ∀ v' w', OwnB w' B u8 v' (l ++ r) → w.grownBy w' v.ownBlock → v' ≠ .slice none 0 0 → K (a.put o.dst v') w') :
    if Region.wanted o (yielded ops a.tmps) = true then Oper.wp P o a w K Q else E := by
  obtain ⟨i, z, h1', h2, h3, h4, h5⟩ := T.info
  refine step_append_lies w hgd s x t ho B u8 i z 1 1 T.under h1' h2 h3 h4 h5 T.pos v l.length _ hs hown ad r.length c (r.map fun b => Value.int .u8 ((b.toNat : Nat) : Int)) hx (by simp) hnews (bytes_one r) hy (by unfold maxLen; omega)
    (Nat.le_trans (Nat.mul_le_mul h63 (by decide : 1 ≤ 32768)) (by decide)) hB w.heap.size rfl ?_
  intro g cap w' h1 h2 h3 h4
  refine h _ w' ?_ h2 (by simp)
  unfold OwnB
  rw [List.length_append, List.map_append]; exact h1
theorem cell_one_of {w : World} {u : Value} {e : TypeId} : ∀ j x, [u][j]? = some x → (w.alloc (.cells #[u] e)).cell? ((⟨w.heap.size, 0, none⟩ : Addr).add j) = some x := by
  intro j x hj
  match j with
  | 0 => simp at hj; subst hj; simp [Addr.add]
  | j + 1 => simp at hj
end Go.Proofs.YtpknmldpdoadgaaDoor
