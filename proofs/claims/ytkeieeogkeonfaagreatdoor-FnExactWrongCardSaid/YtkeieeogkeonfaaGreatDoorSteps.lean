/- The text of a path: the reference's PutPath. -/
import Derived.Test.YtkeieeogkeonfaaGreatDoorShapeForm
import Derived.Test.YtkeieeogkeonfaaGreatDoorTextS
import Derived.Test.YtkeieeogkeonfaaGreatDoorOwn
import Derived.Test.YtkeieeogkeonfaaGreatDoorOwnSl
import Derived.Test.YtkeieeogkeonfaaGreatDoorTexts
import Derived.Test.YtkeieeogkeonfaaGreatDoorShapeForm2
import Derived.Test.YtkeieeogkeonfaaGreatDoorShapeTo
import Derived.Deep.DeepCutAuto
namespace Go.Proofs.YtkeieeogkeonfaaGreatDoor
open Go.RowKit
open Go.Lib (validD)

def esc1 (b : UInt8) : List UInt8 := if b = 126 then [126, 48] else if b = 47 then [126, 49] else [b]
def esc (s : List UInt8) : List UInt8 := s.flatMap esc1
def pathL (st : List (List UInt8)) : List UInt8 := st.flatMap fun s => 47 :: esc s
def stepOk (s : List UInt8) : Bool := validD s && decide (s.length ≤ 2000)
def putPath (st : List (List UInt8)) : List UInt8 := if st.length ≤ 12 ∧ st.all stepOk = true then pathL st else []
theorem esc1_length (b : UInt8) : (esc1 b).length ≤ 2 := by unfold esc1; split; · simp
                                                            split <;> simp
theorem esc_length : ∀ s : List UInt8, (esc s).length ≤ 2 * s.length
  | [] => by simp [esc]
  | b :: s => by have := esc_length s; have := esc1_length b; simp only [esc, List.flatMap_cons, List.length_append, List.length_cons] at *; omega
theorem pathL_length : ∀ st : List (List UInt8), st.all stepOk = true → (pathL st).length ≤ 4001 * st.length
  | [], _ => by simp [pathL]
  | s :: st, h => by
    simp only [List.all_cons, Bool.and_eq_true] at h
    have h1 := pathL_length st h.2
    have h2 := esc_length s
    have h3 : s.length ≤ 2000 := by have := h.1; unfold stepOk at this; simp only [Bool.and_eq_true, decide_eq_true_eq] at this; exact this.2
    simp only [pathL, List.flatMap_cons, List.length_append, List.length_cons] at *; omega
theorem pathL_take (st : List (List UInt8)) (j : Nat) (h : j < st.length) : pathL (st.take (j + 1)) = pathL (st.take j) ++ (47 :: esc st[j]) := by
  unfold pathL; rw [List.take_succ_eq_append_getElem h, List.flatMap_append, List.flatMap_singleton]
theorem esc_take (s : List UInt8) (j : Nat) (h : j < s.length) : esc (s.take (j + 1)) = esc (s.take j) ++ esc1 s[j] := by
  unfold esc; rw [List.take_succ_eq_append_getElem h, List.flatMap_append, List.flatMap_singleton]
theorem putPath_no {st : List (List UInt8)} {j : Nat} (h : j < st.length) (hn : stepOk st[j] = false) : putPath st = [] := by
  unfold putPath; rw [if_neg]; rintro ⟨_, h2⟩
  rw [List.all_eq_true] at h2; rw [h2 _ (List.getElem_mem h)] at hn; cases hn
theorem putPath_long {st : List (List UInt8)} (h : ¬ st.length ≤ 12) : putPath st = [] := by
  unfold putPath; rw [if_neg]; exact fun h2 => h h2.1

theorem OwnB.keep {w w' : World} {B u8 : Nat} {v : Value} {l : List UInt8} (h : OwnB w B u8 v l) (hb : Below w.heap.size w w') : OwnB w' B u8 v l := by
  refine ⟨h.1, ?_⟩
  rcases h.2 with h2 | ⟨g, cap, cur, hv, hg, hh, r⟩
  · exact .inl h2
  · exact .inr ⟨g, cap, cur, hv, hg, by rw [hb.block g (heap_lt hh)]; exact hh, r⟩
theorem tyBp : ElemTy Tryz.prog 75 5 1 1 := ElemTy.mk' (z := .int .u8 0) Tryz.underlying75 (by kernel_rfl) rfl (by decide)
theorem esc1_cell (b : UInt8) : (b = 126 ∧ esc1 b = [126, 48]) ∨ (b ≠ 126 ∧ b = 47 ∧ esc1 b = [126, 49]) ∨ (b ≠ 126 ∧ b ≠ 47 ∧ esc1 b = [b]) := by
  by_cases h1 : b = 126
  · exact .inl ⟨h1, by rw [h1]; rfl⟩
  · by_cases h2 : b = 47
    · exact .inr (.inl ⟨h1, h2, by rw [h2]; rfl⟩)
    · exact .inr (.inr ⟨h1, h2, by unfold esc1; rw [if_neg h1, if_neg h2]⟩)

set_option maxHeartbeats 2000000 in
set_option maxRecDepth 10000 in
theorem putPath_spec (st : List (List UInt8)) (v : Value) (w : World) (h : StrRow w v st) (hl : st.length ≤ 4294967295) (hs : ∀ s ∈ st, s.length ≤ 4294967295) :
    Calls Tryz.prog 33 #[v] w fun e w' => e = .returned (.string ⟨(putPath st).toArray⟩) ∧ Below w.heap.size w w' := by
  obtain ⟨a, c, rfl, hg⟩ := h
  obtain ⟨tot, htot⟩ : ∃ tot, putPath st = tot := ⟨_, rfl⟩
  rw [htot]
  have HTOT := Lib.hid htot; clear htot
  have HG := Lib.hid hg; clear hg
  go_enter Tryz.func33, Tryz.ntmps33
  go_wp2
  go_loopw [3, 4] (fun v i wr => ∃ j : Nat, j ≤ st.length ∧ i = .int .i64 j ∧ OwnB wr w.heap.size 5 v (pathL (st.take j)) ∧ v ≠ .slice none 0 0 ∧ (st.take j).all stepOk = true ∧ (0 < j → st.length ≤ 12) ∧ Below w.heap.size w wr) (fun _ i _ => st.length - (intOf i).toNat)
  case atStart => exact ⟨0, Nat.zero_le _, rfl, by simpa [pathL] using OwnB.start, by simp, rfl, by simp, (Below.refl _ _).alloc (Nat.le_refl _) _⟩
  case round =>
    obtain ⟨j, hj, rfl, hown, hvn, hall, h12, hbel⟩ := hrel
    obtain ⟨g, cp, rfl, hgB⟩ := hown.form' hvn
    have hpl := pathL_length _ hall
    rw [List.length_take, Nat.min_eq_left hj] at hpl
    obtain ⟨pre, hpre⟩ : ∃ pre, pathL (st.take j) = pre := ⟨_, rfl⟩
    rw [hpre] at hown hpl ⊢
    have HPRE := Lib.hid hpre; clear hpre
    have HALL := Lib.hid hall; clear hall
    have hzz := hbel.size
    by_cases hlt : j < st.length
    · have i1 : (0 : Int) ≤ j := by omega
      have i2 : (j : Int) < st.length := by omega
      obtain ⟨b, o, rfl, hcell⟩ := HG.out (by intro e; rw [e] at hlt; simp at hlt)
      have hd := hcell j hlt
      have hbb := cell_lt hd
      have HCELL := Lib.hid hd
      rw [← (bcell hbel).1 _ _ hbb] at hd
      obtain ⟨s, hsj⟩ : ∃ s, st[j] = s := ⟨_, rfl⟩
      have hsl : s.length ≤ 4294967295 := by rw [← hsj]; exact hs _ (List.getElem_mem hlt)
      rw [hsj] at hd
      have HSJ := Lib.hid hsj
      clear hcell hsj
      by_cases hlen : st.length ≤ 12
      · have i3 : ¬ (12 : Int) < st.length := by omega
        have HC := Lib.hid (textOk_spec s wr hsl)
        cases hv : validD s with
        | false =>
          have HF := Lib.hid (show tot = [] by rw [← HTOT.out]; exact putPath_no hlt (by rw [HSJ.out]; unfold stepOk; rw [hv]; rfl))
          rw [hv] at HC
          clear hv
          go_wp2_with (go_at_call 55; refine HC.out.mono ?_; rintro e1 w1 ⟨rfl, hb1⟩)
          go_ret
          exact ⟨by rw [HF.out]; rfl, below2 hbel hb1 (Nat.le_refl _)⟩
        | true =>
          rw [hv] at HC
          by_cases h20 : s.length ≤ 2000
          · have i4 : ¬ (2000 : Int) < s.length := by omega
            have HOK := Lib.hid (show stepOk s = true by unfold stepOk; rw [hv, decide_eq_true h20]; rfl)
            have hjl : j ≤ 12 := by omega
            clear hv
            go_wp2_with (first | (go_at_call 55; refine HC.out.mono ?_; rintro e1 w1 ⟨rfl, hb1⟩; have hd1 := hd; rw [← (bcell hb1).1 _ _ (Nat.lt_of_lt_of_le hbb hzz)] at hd1; have hown1 := hown.keep hb1; have hz1 := hb1.size) | (at_builtin; refine wp_appB (r := [47]) tyBp rfl rfl w.heap.size (hown1.alloc _) rfl ⟨w1.heap.size, 0, none⟩ 1 rfl (lit_cells (w := w1) (news := [.int .u8 47])) (by simp; omega) (by simp; omega) ?_))
            intro v' w2 hown2 hgr hvn2
            have hbel2 := OwnB.below (hown1.alloc _) ((below2 hbel hb1 (Nat.le_refl _)).alloc (by omega) _) hgr (by simp; omega)
            have hvn3 : v' ≠ .slice none 0 0 := fun e => by have := hvn2 e; simp at this
            clear hvn2 hgr hown1 hown hd1 hd HC hvn
            go_wp2
            go_loopw [3, 5] (fun v i wr => ∃ k : Nat, k ≤ s.length ∧ i = .int .i64 k ∧ OwnB wr w.heap.size 5 v (pre ++ ([47] ++ esc (s.take k))) ∧ v ≠ .slice none 0 0 ∧ Below w.heap.size w wr) (fun _ i _ => s.length - (intOf i).toNat)
            case atStart => exact ⟨0, Nat.zero_le _, rfl, by simpa [esc] using hown2, hvn3, hbel2⟩
            case round =>
              obtain ⟨k, hk, rfl, hownk, hvnk, hbelk⟩ := hrel
              obtain ⟨gk, ck, rfl, hgk⟩ := hownk.form' hvnk
              obtain ⟨es, hes⟩ : ∃ es, esc (s.take k) = es := ⟨_, rfl⟩
              have hel : es.length ≤ 4000 := by rw [← hes]; have := esc_length (s.take k); rw [List.length_take] at this; omega
              rw [hes] at hownk ⊢
              have HES := Lib.hid hes; clear hes
              have hdk : wr.cell? ⟨b, o + j, none⟩ = some (.string ⟨s.toArray⟩) := by
                rw [(bcell hbelk).1 _ _ hbb, ← HSJ.out]; exact HCELL.out
              have hzk := hbelk.size
              have k1 : (0 : Int) ≤ k := by omega
              by_cases hkl : k < s.length
              · have k2 : (k : Int) < s.length := by omega
                have HS := Lib.hid (esc_take s k hkl)
                obtain ⟨bt, hbt⟩ : ∃ bt, s[k] = bt := ⟨_, rfl⟩
                rw [hbt] at HS
                rcases esc1_cell bt with ⟨h1, h2⟩ | ⟨h0, h1, h2⟩ | ⟨h0, h1, h2⟩
                · subst h1
                  have HE := Lib.hid (show pre ++ ([47] ++ esc (s.take (k + 1))) = pre ++ 47 :: (es ++ [126, 48]) by rw [HS.out, HES.out, h2]; simp)
                  clear h2
                  go_wp2_with (at_builtin; refine wp_appB (r := [126, 48]) tyBp rfl rfl w.heap.size (hownk.alloc _) rfl ⟨wr.heap.size, 0, none⟩ 2 rfl (lit_cells (w := wr) (news := [.int .u8 126, .int .u8 48])) (by simp; omega) (by simp; omega) ?_)
                  intro v4 w4 hown4 hgr4 hvn4
                  have hbel4 := OwnB.below (hownk.alloc _) (hbelk.alloc (by omega) _) hgr4 (by simp; omega)
                  go_wp2
                  go_roundw
                  case rel => exact ⟨k + 1, by omega, by go_num, by rw [HE.out]; exact hown4, fun e => by have := hvn4 e; simp at this, hbel4⟩
                  case measure => simp [intOf]; omega
                · subst h1
                  have HE := Lib.hid (show pre ++ ([47] ++ esc (s.take (k + 1))) = pre ++ 47 :: (es ++ [126, 49]) by rw [HS.out, HES.out, h2]; simp)
                  clear h2 h0
                  go_wp2_with (at_builtin; refine wp_appB (r := [126, 49]) tyBp rfl rfl w.heap.size (hownk.alloc _) rfl ⟨wr.heap.size, 0, none⟩ 2 rfl (lit_cells (w := wr) (news := [.int .u8 126, .int .u8 49])) (by simp; omega) (by simp; omega) ?_)
                  intro v4 w4 hown4 hgr4 hvn4
                  have hbel4 := OwnB.below (hownk.alloc _) (hbelk.alloc (by omega) _) hgr4 (by simp; omega)
                  go_wp2
                  go_roundw
                  case rel => exact ⟨k + 1, by omega, by go_num, by rw [HE.out]; exact hown4, fun e => by have := hvn4 e; simp at this, hbel4⟩
                  case measure => simp [intOf]; omega
                · have HE := Lib.hid (show pre ++ ([47] ++ esc (s.take (k + 1))) = pre ++ 47 :: (es ++ [bt]) by rw [HS.out, HES.out, h2]; simp)
                  have n1 : ((bt.toNat : Int) == 126) = false := by
                    have : bt.toNat ≠ 126 := fun e => h0 (UInt8.toNat_inj.1 e)
                    simp; omega
                  have n2 : ((bt.toNat : Int) == 47) = false := by
                    have : bt.toNat ≠ 47 := fun e => h1 (UInt8.toNat_inj.1 e)
                    simp; omega
                  clear h2 h0 h1
                  go_wp2_with (at_builtin; refine wp_appB (r := [bt]) tyBp rfl rfl w.heap.size (hownk.alloc _) rfl ⟨wr.heap.size, 0, none⟩ 1 rfl (lit_cells (w := wr) (news := [.int .u8 (bt.toNat : Nat)])) (by simp; omega) (by simp; omega) ?_)
                  intro v4 w4 hown4 hgr4 hvn4
                  have hbel4 := OwnB.below (hownk.alloc _) (hbelk.alloc (by omega) _) hgr4 (by simp; omega)
                  go_wp2
                  go_roundw
                  case rel => exact ⟨k + 1, by omega, by go_num, by rw [HE.out]; exact hown4, fun e => by have := hvn4 e; simp at this, hbel4⟩
                  case measure => simp [intOf]; omega
              · obtain rfl : k = s.length := by omega
                have hE := HES.out
                rw [List.take_length] at hE
                have HP := Lib.hid (show pathL (st.take (j + 1)) = pre ++ ([47] ++ es) by rw [pathL_take st j hlt, HPRE.out, HSJ.out, hE]; rfl)
                have HA := Lib.hid (show (st.take (j + 1)).all stepOk = true by rw [List.take_succ_eq_append_getElem hlt, List.all_append, HALL.out, HSJ.out]; simp [HOK.out])
                have k2 : ¬ ((s.length : Int) < s.length) := by omega
                clear hE
                go_wp2
                go_roundw
                case rel => exact ⟨j + 1, by omega, by go_num, by rw [HP.out]; exact hownk, by simp, HA.out, fun _ => hlen, hbelk⟩
                case measure => simp [intOf]; omega
          · have i4 : (2000 : Int) < s.length := by omega
            have HF := Lib.hid (show tot = [] by rw [← HTOT.out]; exact putPath_no hlt (by rw [HSJ.out]; unfold stepOk; rw [decide_eq_false h20, Bool.and_false]))
            clear hv
            go_wp2_with (go_at_call 55; refine HC.out.mono ?_; rintro e1 w1 ⟨rfl, hb1⟩; have hd1 := hd; rw [← (bcell hb1).1 _ _ (Nat.lt_of_lt_of_le hbb hzz)] at hd1)
            go_ret
            exact ⟨by rw [HF.out]; rfl, below2 hbel hb1 (Nat.le_refl _)⟩
      · have i3 : (12 : Int) < st.length := by omega
        have HF := Lib.hid (show tot = [] by rw [← HTOT.out]; exact putPath_long hlen)
        go_wp2
        go_ret
        exact ⟨by rw [HF.out]; rfl, hbel⟩
    · obtain rfl : j = st.length := by omega
      have hp := HPRE.out
      have ha := HALL.out
      rw [List.take_length] at hp ha
      have HF := Lib.hid (show tot = pre by
        rw [← HTOT.out, ← hp]; unfold putPath
        by_cases h0 : st.length = 0
        · have := List.length_eq_zero_iff.1 h0; subst this; simp [pathL]
        · rw [if_pos ⟨h12 (by omega), ha⟩])
      have hcv := hown.str (P := Tryz.prog) 75 Tryz.underlying75 Tryz.underlying5
      have i2 : ¬ ((st.length : Int) < st.length) := by omega
      clear hp ha
      go_wp2
      go_ret
      exact ⟨by rw [HF.out]; rfl, hbel⟩
end Go.Proofs.YtkeieeogkeonfaaGreatDoor

/- Rows of steps that have a place in memory; the reference's l09Step. -/
namespace Go.Proofs.YtkeieeogkeonfaaGreatDoor
open Go.RowKit

/-- a row of texts from a block's first cell on -/
def StrA (w : World) (v : Value) (st : List (List UInt8)) : Prop :=
  ∃ g c, v = .slice (some ⟨g, 0, none⟩) st.length c ∧ ∀ k (h : k < st.length), w.cell? ⟨g, k, none⟩ = some (.string ⟨st[k].toArray⟩)
theorem StrA.row {w : World} {v : Value} {st : List (List UInt8)} (h : StrA w v st) : StrRow w v st := by
  obtain ⟨g, c, rfl, h⟩ := h
  exact ⟨_, c, rfl, fun _ => ⟨g, 0, rfl, fun k hk => by rw [Nat.zero_add]; exact h k hk⟩⟩
theorem StrA.below {w w' : World} {v : Value} {st : List (List UInt8)} (h : StrA w v st) (hb : Below w.heap.size w w') : StrA w' v st := by
  obtain ⟨g, c, rfl, h⟩ := h
  exact ⟨g, c, rfl, fun k hk => by have := h k hk; rw [(bcell hb).1 _ _ (cell_lt this)]; exact this⟩
theorem StrA.drew {w : World} {v : Value} {st : List (List UInt8)} (h : StrA w v st) : StrA w.drew v st := h.below (Below.refl _ _).drew
theorem StrA.empty {w : World} : StrA (w.alloc (.cells #[] 9)) (.slice (some ⟨w.heap.size, 0, none⟩) 0 0) [] := ⟨_, _, rfl, fun k h => absurd h (by simp)⟩
theorem OwnR.strA {w : World} {B e : Nat} {v : Value} {ls : List (List UInt8)} (h : OwnR w B e v (ls.map strV)) (hn : v ≠ .slice none 0 0) : StrA w v ls := by
  rcases h.form with ⟨h1, _⟩ | ⟨g, c, h2, _⟩
  · exact absurd h1 hn
  · refine ⟨g, c, by rw [h2, List.length_map], fun k hk => ?_⟩
    have := h.cells g (by rw [h2]; rfl) k (strV ls[k]) (by simp [hk])
    rw [add_plain, Nat.zero_add] at this; exact this
theorem StrA.news {w : World} {g : Nat} {st : List (List UInt8)} (h : ∀ k (h : k < st.length), w.cell? ⟨g, k, none⟩ = some (.string ⟨st[k].toArray⟩)) : ∀ j u, (st.map strV)[j]? = some u → w.cell? ((⟨g, 0, none⟩ : Addr).add j) = some u := by
  intro j u hj
  rw [List.getElem?_map] at hj
  by_cases hl : j < st.length
  · rw [List.getElem?_eq_getElem hl] at hj; simp at hj; subst hj
    rw [add_plain, Nat.zero_add]; exact h j hl
  · rw [List.getElem?_eq_none (by omega)] at hj; simp at hj
theorem strV_one (st : List (List UInt8)) : ∀ u ∈ st.map strV, u.oneCell' = true := by
  intro u hu; rw [List.mem_map] at hu; obtain ⟨b, _, rfl⟩ := hu; rfl

set_option maxHeartbeats 1000000 in
set_option maxRecDepth 10000 in
theorem l09Step_any (st : List (List UInt8)) (v : Value) (s : List UInt8) (w : World) (h : StrA w v st) (hl : st.length ≤ 4294967290) :
    Calls Tryz.prog 34 #[v, .string ⟨s.toArray⟩] w fun e w' => ∃ v', e = .returned v' ∧ Below w.heap.size w w' ∧ StrA w' v' (st ++ [s]) := by
  obtain ⟨g, c, rfl, hc⟩ := h
  have hA1 : Below w.heap.size w (w.alloc (.cells #[] 9)) := (Below.refl _ _).alloc (Nat.le_refl _) _
  have HN := Lib.hid (StrA.news (w := w.alloc (.cells #[] 9)) (g := g) (st := st) fun k hk => by have := hc k hk; rw [(bcell hA1).1 _ _ (cell_lt this)]; exact this)
  clear hc
  go_enter Tryz.func34, Tryz.ntmps34
  go_wp2_with (at_builtin; refine wp_appR (ys := st.map strV) tyStr rfl rfl w.heap.size OwnR.start rfl ⟨g, 0, none⟩ c (by simp; rfl) HN.out (strV_one st) (by simp; omega) (by decide) (by simp) ?_)
  intro v1 w1 hown1 hgr1 hn1
  have hne1 : v1 ≠ .slice none 0 0 := fun e => by have := hn1 e; simp at this
  have hb1 := OwnR.grown OwnR.start hA1 hgr1 (by simp)
  clear hn1 hgr1 HN
  obtain ⟨a1, c1, rfl⟩ := hown1.any
  have hz1 := hb1.size
  go_wp2_with (at_builtin; refine wp_appR (ys := [.string ⟨s.toArray⟩]) tyStr rfl rfl w.heap.size (hown1.alloc _) rfl ⟨w1.heap.size, 0, none⟩ 1 rfl (cell_one_new _ _ _) (by simp [Value.oneCell']) (by simp; omega) (by decide) (by simp; omega) ?_)
  intro v2 w2 hown2 hgr2 hn2
  have hne2 : v2 ≠ .slice none 0 0 := fun e => by obtain ⟨rfl, rfl, rfl⟩ := hn2 e; exact hne1 rfl
  have hmm : (st.map strV).length = st.length := List.length_map _
  have hb2 := OwnR.grown (hown1.alloc _) (hb1.alloc hz1 _) (by rw [hmm]; exact hgr2) (by simp; omega)
  go_wp2
  go_ret
  exact ⟨_, rfl, hb2, OwnR.strA (by simpa [strV] using hown2) hne2⟩
end Go.Proofs.YtkeieeogkeonfaaGreatDoor

/- Whether a map has the keys of a shape: the reference's l15Has. -/
namespace Go.Proofs.YtkeieeogkeonfaaGreatDoor
open Go.RowKit

theorem allIn_cut {a b : List (List UInt8)} {j : Nat} (h : j < a.length) (hn : a[j] ∉ b) : allIn a b = false := by
  cases ht : allIn a b with
  | false => rfl
  | true => unfold allIn at ht; rw [List.all_eq_true] at ht; exact absurd (of_decide_eq_true (ht _ (List.getElem_mem h))) hn
theorem allIn_take {a b : List (List UInt8)} {j : Nat} (h : j < a.length) (hp : allIn (a.take j) b = true) (hn : a[j] ∈ b) : allIn (a.take (j + 1)) b = true := by
  unfold allIn at hp ⊢
  rw [List.take_succ_eq_append_getElem h, List.all_append, hp]; simp [hn]
theorem V.keys_ok {x : V} (hl : x.kids.length ≤ 4294967295) : x.keys.length ≤ 4294967295 := Nat.le_trans x.keys_length hl

set_option maxHeartbeats 2000000 in
set_option maxRecDepth 10000 in
theorem has_spec (x : V) (sh : Sh) (cs ch : List Value) (w : World) (hx : Rd w x.d cs) (hs : Rd w sh.d ch) (hl : x.kids.length ≤ 4294967295) (hk : sh.keys.length ≤ 4294967295) (hm : 0 ≤ sh.must ∧ sh.must ≤ sh.keys.length) :
    Calls Tryz.prog 54 #[.agg cs.toArray, .agg ch.toArray] w fun e w' => e = .returned (.bool (allIn x.keys sh.keys && allIn (sh.keys.take sh.must.toNat) x.keys)) ∧ Below w.heap.size w w' := by
  obtain ⟨k, n, e, s0, a1, n1, c1, rfl⟩ := V.form hx
  obtain ⟨k', l, hi, ks, m, kids, v1, v2, rfl, rfl, h1, h2⟩ := Sh.lay hs
  obtain ⟨a4, c4, rfl⟩ := Rd.sl_form h1
  obtain ⟨a6, c6, rfl⟩ := Rd.sl_form h2
  rw [List.length_map] at h1 hs ⊢
  simp only [Sh.keys, Sh.must] at hk hm ⊢
  obtain ⟨nl, hnl⟩ : ∃ nl, (Sh.ds kids).length = nl := ⟨_, rfl⟩
  rw [hnl]
  obtain ⟨W0, hW0⟩ : ∃ W0, W0 = (w.alloc (.cells #[.int .i64 k, .int .i64 n, .int .i64 e, .string ⟨s0.toArray⟩, .slice a1 n1 c1] 35)).alloc (.cells #[.int .i64 k', .int .i64 l, .int .i64 hi, .slice a4 ks.length c4, .int .i64 m, .slice a6 nl c6] 39) := ⟨_, rfl⟩
  have HW := Lib.hid hW0
  have hA0 : Below w.heap.size w W0 := by rw [hW0]; exact ((Below.refl _ _).alloc (Nat.le_refl _) _).alloc (by simp) _
  have hz : W0.heap.size = w.heap.size + 2 := by rw [hW0]; simp
  have KB : Hid (∀ W, Below W0.heap.size W0 W → (W.cell? ⟨w.heap.size, 0, none⟩ = some (.int .i64 k) ∧ W.cell? ⟨w.heap.size, 1, none⟩ = some (.int .i64 n) ∧ W.cell? ⟨w.heap.size, 2, none⟩ = some (.int .i64 e) ∧ W.cell? ⟨w.heap.size, 3, none⟩ = some (.string ⟨s0.toArray⟩) ∧ W.cell? ⟨w.heap.size, 4, none⟩ = some (.slice a1 n1 c1)) ∧
      (W.cell? ⟨w.heap.size + 1, 3, none⟩ = some (.slice a4 ks.length c4) ∧ W.cell? ⟨w.heap.size + 1, 4, none⟩ = some (.int .i64 m))) := by
    intro W hb
    obtain ⟨hc, _⟩ := bcell hb
    simp only [hc _ _ (show w.heap.size < W0.heap.size by omega), hc _ _ (show w.heap.size + 1 < W0.heap.size by omega)]
    subst hW0; simp [go_sem]
  obtain ⟨kk, hkk⟩ : ∃ kk, x.keys = kk := ⟨_, rfl⟩
  have hkl : kk.length ≤ 4294967295 := by rw [← hkk]; exact V.keys_ok hl
  have HC := Lib.hid (keys_spec x _ W0 (hx.below hA0) hl)
  rw [hkk] at HC ⊢
  have hks := (h1.strRow).below hA0
  obtain ⟨M, rfl⟩ : ∃ M : Nat, m = M := ⟨m.toNat, by omega⟩
  have hM : M ≤ ks.length := by omega
  obtain ⟨tot, htot⟩ : ∃ tot, (allIn kk ks && allIn (ks.take (M : Int).toNat) kk) = tot := ⟨_, rfl⟩
  rw [htot]
  have HTOT := Lib.hid (show (allIn kk ks && allIn (ks.take M) kk) = tot by rw [← htot]; rfl)
  have hB := Below.refl W0.heap.size W0
  clear hW0 hx hs h1 h2 hkk htot hm
  obtain ⟨⟨p0, p1, p2, p3, p4⟩, q3, q4⟩ := KB.out _ hB
  go_enter Tryz.func54, Tryz.ntmps54
  go_wp2_with fail
  rw [← HW.out]
  go_wp2_with (go_at_call 79; refine HC.out.mono ?_; rintro e1 w1 ⟨v', rfl, hb1, hown⟩; have hrow := hown.strRow; obtain ⟨av, cv, rfl⟩ := hown.any; rw [List.length_map] at hrow ⊢)
  clear p0 p1 p2 p3 p4 q3 q4
  have hz1 := hb1.size
  have hks1 := hks.below hb1
  have hAk := Lib.hid (fun s W (hW : Below w1.heap.size w1 W) => l11At_any ks _ s W (hks1.below hW) (by omega))
  have hAr := Lib.hid (fun s W (hW : Below w1.heap.size w1 W) => l11At_any kk _ s W (hrow.below hW) (by omega))
  have HKS := Lib.hid hks1
  have HRW := Lib.hid hrow
  clear hks hks1 hrow hown
  go_loopw [6] (fun i wr => ∃ j : Nat, j ≤ kk.length ∧ i = .int .i64 j ∧ allIn (kk.take j) ks = true ∧ Below w1.heap.size w1 wr) (fun i _ => kk.length - (intOf i).toNat)
  case atStart => exact ⟨0, Nat.zero_le _, rfl, by simp [allIn], Below.refl _ _⟩
  case round =>
    obtain ⟨j, hj, rfl, hall, hbel⟩ := hrel
    have HALL := Lib.hid hall; clear hall
    obtain ⟨⟨p0, p1, p2, p3, p4⟩, q3, q4⟩ := KB.out _ (below2 hb1 hbel (Nat.le_refl _))
    have hsz := hbel.size
    have i1 : (0 : Int) ≤ j := by omega
    by_cases hlt : j < kk.length
    · have i2 : (j : Int) < kk.length := by omega
      obtain ⟨a, c, he, hcl⟩ := HRW.out
      obtain ⟨rfl, -, rfl⟩ : av = a ∧ kk.length = kk.length ∧ cv = c := by simpa using he
      obtain ⟨b, o, rfl, hcell⟩ := hcl (by intro e; rw [e] at hlt; simp at hlt)
      have hd := hcell j hlt
      have hbb := cell_lt hd
      rw [← (bcell hbel).1 _ _ hbb] at hd
      obtain ⟨s1, hs1⟩ : ∃ s1, kk[j] = s1 := ⟨_, rfl⟩
      rw [hs1] at hd
      obtain ⟨ix, hix⟩ : ∃ ix, ixF ks s1 0 = ix := ⟨_, rfl⟩
      have HA := Lib.hid (hAk.out s1)
      rw [hix] at HA
      have hmem := ixF_mem ks s1 0
      rw [hix] at hmem
      have HMEM := Lib.hid hmem
      have HS1 := Lib.hid hs1
      have hE := Below.refl wr.heap.size wr
      clear hcl hcell hmem hix hs1 he
      by_cases hneg : ix < 0
      · have hdn := decide_eq_true hneg
        have HF := Lib.hid (show tot = false by
          rw [← HTOT.out, allIn_cut hlt (by rw [HS1.out]; intro hm; have := HMEM.out.2 hm; omega)]; rfl)
        go_wp2_with fail
        clear p0 p1 p2 p3 p4 q3 q4
        go_region_held3 (fun W => W.cell? ⟨w.heap.size + 1, 3, none⟩ = some (.slice a4 ks.length c4) ∧ W.cell? ⟨b, o + j, none⟩ = some (.string ⟨s1.toArray⟩) ∧ Below w1.heap.size w1 W)
          (first | exact ⟨(KB.out _ (below2 hb1 (below2 hbel hE (Nat.le_refl _)) (Nat.le_refl _))).2.1, by rw [(bcell hE).1 _ _ (Nat.lt_of_lt_of_le hbb hsz)]; exact hd, below2 hbel hE (Nat.le_refl _)⟩ | exact ⟨(KB.out _ (below2 hb1 (below2 hbel hE.drew (Nat.le_refl _)) (Nat.le_refl _))).2.1, by rw [(bcell hE.drew).1 _ _ (Nat.lt_of_lt_of_le hbb hsz)]; exact hd, below2 hbel hE.drew (Nat.le_refl _)⟩)
          (first | (go_at_call 36; refine (HA.out _ (by first | exact below2 hbel hE (Nat.le_refl _) | exact below2 hbel hE.drew (Nat.le_refl _))).mono ?_; rintro e1 w2 ⟨rfl, hb2⟩; replace hE := below2 (by first | exact hE | exact hE.drew) hb2 (Nat.le_refl _)))
        go_wp2
        go_ret
        exact ⟨by rw [HF.out]; rfl, below2 hA0 (below2 hb1 (below2 hbel hE (Nat.le_refl _)) (Nat.le_refl _)) (Nat.le_refl _)⟩
      · have hdn := decide_eq_false hneg
        have HT := Lib.hid (allIn_take hlt HALL.out (by rw [HS1.out]; exact HMEM.out.1 (by omega)))
        go_wp2_with fail
        clear p0 p1 p2 p3 p4 q3 q4
        go_region_held3 (fun W => W.cell? ⟨w.heap.size + 1, 3, none⟩ = some (.slice a4 ks.length c4) ∧ W.cell? ⟨b, o + j, none⟩ = some (.string ⟨s1.toArray⟩) ∧ Below w1.heap.size w1 W)
          (first | exact ⟨(KB.out _ (below2 hb1 (below2 hbel hE (Nat.le_refl _)) (Nat.le_refl _))).2.1, by rw [(bcell hE).1 _ _ (Nat.lt_of_lt_of_le hbb hsz)]; exact hd, below2 hbel hE (Nat.le_refl _)⟩ | exact ⟨(KB.out _ (below2 hb1 (below2 hbel hE.drew (Nat.le_refl _)) (Nat.le_refl _))).2.1, by rw [(bcell hE.drew).1 _ _ (Nat.lt_of_lt_of_le hbb hsz)]; exact hd, below2 hbel hE.drew (Nat.le_refl _)⟩)
          (first | (go_at_call 36; refine (HA.out _ (by first | exact below2 hbel hE (Nat.le_refl _) | exact below2 hbel hE.drew (Nat.le_refl _))).mono ?_; rintro e1 w2 ⟨rfl, hb2⟩; replace hE := below2 (by first | exact hE | exact hE.drew) hb2 (Nat.le_refl _)))
        go_wp2
        go_roundw
        case rel => exact ⟨j + 1, by omega, by go_num, HT.out, below2 hbel hE (Nat.le_refl _)⟩
        case measure => simp [intOf]; omega
    · obtain rfl : j = kk.length := by omega
      have hall := HALL.out
      rw [List.take_length] at hall
      have HT1 := Lib.hid (show allIn (ks.take M) kk = tot by rw [← HTOT.out, hall]; rfl)
      have i2 : ¬ ((kk.length : Int) < kk.length) := by omega
      have hb1r := below2 hb1 hbel (Nat.le_refl _)
      clear hall HALL p0 p1 p2 p3 p4 q3 q4 hj hlt
      go_wp2
      go_loopw [7] (fun i wq => ∃ j : Nat, j ≤ M ∧ i = .int .i64 j ∧ allIn (ks.take j) kk = true ∧ Below wr.heap.size wr wq) (fun i _ => M - (intOf i).toNat)
      case atStart => exact ⟨0, Nat.zero_le _, rfl, by simp [allIn], Below.refl _ _⟩
      case round =>
        obtain ⟨j, hj, rfl, hall, hbel2⟩ := hrel
        have HALL := Lib.hid hall; clear hall
        obtain ⟨⟨p0, p1, p2, p3, p4⟩, q3, q4⟩ := KB.out _ (below2 hb1r hbel2 (Nat.le_refl _))
        have hsz2 := hbel2.size
        have i1 : (0 : Int) ≤ j := by omega
        by_cases hlt : j < M
        · have i2 : (j : Int) < M := by omega
          have i3 : (j : Int) < ks.length := by omega
          have hlk : j < ks.length := by omega
          obtain ⟨a, c, he, hcl⟩ := HKS.out
          obtain ⟨rfl, -, rfl⟩ : a4 = a ∧ ks.length = ks.length ∧ c4 = c := by simpa using he
          obtain ⟨b, o, rfl, hcell⟩ := hcl (by intro e; rw [e] at hlk; simp at hlk)
          have hd := hcell j hlk
          have hbb := cell_lt hd
          rw [← (bcell (below2 hbel hbel2 (Nat.le_refl _))).1 _ _ hbb] at hd
          obtain ⟨s1, hs1⟩ : ∃ s1, ks[j] = s1 := ⟨_, rfl⟩
          rw [hs1] at hd
          obtain ⟨ix, hix⟩ : ∃ ix, ixF kk s1 0 = ix := ⟨_, rfl⟩
          have HA := Lib.hid (hAr.out s1 _ (below2 hbel hbel2 (Nat.le_refl _)))
          rw [hix] at HA
          have hmem := ixF_mem kk s1 0
          rw [hix] at hmem
          have HMEM := Lib.hid hmem
          have HS1 := Lib.hid hs1
          clear hcl hcell hmem hix hs1 he
          by_cases hneg : ix < 0
          · have hdn := decide_eq_true hneg
            have HF := Lib.hid (show tot = false by
              rw [← HT1.out, allIn_cut (j := j) (by rw [List.length_take]; omega) (by rw [List.getElem_take, HS1.out]; intro hm; have := HMEM.out.2 hm; omega)])
            go_wp2_with (go_at_call 36; refine HA.out.mono ?_; rintro e1 w2 ⟨rfl, hb2⟩)
            go_ret
            exact ⟨by rw [HF.out]; rfl, below2 hA0 (below2 hb1r (below2 hbel2 hb2 (Nat.le_refl _)) (Nat.le_refl _)) (Nat.le_refl _)⟩
          · have hdn := decide_eq_false hneg
            have HT := Lib.hid (allIn_take hlk HALL.out (by rw [HS1.out]; exact HMEM.out.1 (by omega)))
            go_wp2_with (go_at_call 36; refine HA.out.mono ?_; rintro e1 w2 ⟨rfl, hb2⟩)
            go_roundw
            case rel => exact ⟨j + 1, by omega, by go_num, HT.out, below2 hbel2 hb2 (Nat.le_refl _)⟩
            case measure => simp [intOf]; omega
        · obtain rfl : j = M := by omega
          have HF := Lib.hid (show tot = true by rw [← HT1.out]; exact HALL.out)
          have i2 : ¬ ((j : Int) < j) := by omega
          go_wp2
          go_ret
          exact ⟨by rw [HF.out]; rfl, below2 hA0 (below2 hb1r hbel2 (Nat.le_refl _)) (Nat.le_refl _)⟩
end Go.Proofs.YtkeieeogkeonfaaGreatDoor
