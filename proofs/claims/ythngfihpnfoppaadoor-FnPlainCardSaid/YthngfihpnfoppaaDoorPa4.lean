/- Part 4 of the proof: contracts and walks. -/
import Derived.Test.YthngfihpnfoppaaDoorPa3
import Derived.Test.YthngfihpnfoppaaDoorChecked
import Derived.KernelRfl
import Derived.Lib.ItoaLen
import Derived.Test.YthngfihpnfoppaaDoorRows
import Derived.IntWalk
import Derived.OwnWalk
import Derived.Deep.AppendLies
import Derived.Deep.RegionHeld3
import Derived.Test.YthngfihpnfoppaaDoorProg
import Derived.Shelf.Unicode.ValidAny
import Derived.Shelf.Strconv.Itoa0
import Derived.Shelf.Strconv.Itoa1
import Derived.Shelf.LaysM
import Derived.Shelf.Strconv.Itoa2
import Derived.Shelf.Strconv.Itoa3
import Derived.Lib.AppendIntMem
import Derived.Lib.LaidTab
import Derived.WalkSmall
import Derived.Lib.ValidLaws
import Derived.Laws.BitsAllLaws
import Derived.Deep.QuietTactic
import Derived.BigQuiet
import Derived.Lib.ConvBytes
import Derived.ProofKit
namespace Go.Proofs.YthngfihpnfoppaaDoor
open Go.RowKit
variable {T : World → Prop} {hT : Low ngl T}
attribute [local irreducible] po mw pt

/-- the loop over the pairs of a map -/
def MkM (b : List UInt8) (d : Nat) (pl : Bool) (m nt : Nat) (live : List Nat) (k : Nat) (st : St) : Prop :=
  ∃ (i t : Nat) (rows : List (List PC)) (ks : List V) (c : List PC) (rest : List (List PC)), i ≤ m ∧ k = m - i ∧ Cu b c ∧ has st.tm [(0, .ref 0 0), (1, .d (pI ((d + 1 : Nat) : Int))), (2, .d (pB pl)), (6, .ref 1 0), (7, .ref 2 0), (8, .d (pI m)), (9, .d (pI i))] ∧
    st.bx = c :: zV :: vRow 8 t rows :: rest ∧ NR nt live st.nt st.live (vRow 8 t rows) ∧ (t = 1 ∧ rows = [] ∨ 2 ≤ t) ∧ ks.length = 2 * i ∧ Kd (i * (10 + mkB d)) rows ks
def MkL (b : List UInt8) (d : Nat) (pl : Bool) (m nt : Nat) (live : List Nat) (k : Nat) (st : St) : Prop :=
  ∃ (i t : Nat) (rows : List (List PC)) (ks : List V) (c : List PC) (rest : List (List PC)), i ≤ m ∧ k = m - i ∧ Cu b c ∧ has st.tm [(0, .ref 0 0), (1, .d (pI ((d + 1 : Nat) : Int))), (2, .d (pB pl)), (6, .ref 1 0), (7, .ref 2 0), (8, .d (pI m)), (11, .d (pI i))] ∧
    st.bx = c :: zV :: vRow 7 t rows :: rest ∧ NR nt live st.nt st.live (vRow 7 t rows) ∧ (t = 1 ∧ rows = [] ∨ 2 ≤ t) ∧ ks.length = i ∧ Kd (i * mkB d) rows ks
theorem leafC (v : V) (h : v.kids = []) : ownedL (vC v) = true ∧ toksL (vC v) = [] := by
  obtain ⟨k, n, e, s, kids⟩ := v
  have h : kids = [] := h
  subst h; exact ⟨rfl, rfl⟩
set_option maxHeartbeats 2000000 in
theorem make_drw {b : List UInt8} (hb : b.length ≤ 2147483647) (pl : Bool) : ∀ (d : Nat), d ≤ 3 → Drw (env T hT) b 22 [.d (pI d), .d (pB pl)] (QV 6 (mkB d)) := by
  intro d
  induction d with
  | zero =>
    intro _ c nt live hc hn
    refine fng_of (R := DvR b 6 (mkB 0) nt live) (look_env lk_s_l02Make) (by show 3 ≤ 90; decide) fun B hB' => ?_
    unfold m_s_l02Make
    refine mw_seq (mw_ops ?_)
    repeat' (first | refine po_mv rfl (by conv => lhs; whnf) ?_ | refine po_s rfl rfl rfl ?_ | refine po_box rfl ?_ | refine po_zero ?_ | refine po_nil ?_)
    refine mw_seq (mw_seq (mw_ops ?_))
    first | refine po_mv rfl (by conv => lhs; whnf) ?_ | refine po_s rfl rfl rfl ?_
    refine po_yes rfl rfl (decide_eq_true (by omega)) ?_
    iterate 1 (first | refine po_mv rfl (by conv => lhs; whnf) ?_ | refine po_s rfl rfl rfl ?_)
    iterate 2 (refine po_skip rfl ?_)
    repeat' (first | refine po_mv rfl (by conv => lhs; whnf) ?_ | refine po_s rfl rfl rfl ?_ | refine po_box rfl ?_ | refine po_zero ?_ | refine po_nil ?_)
    refine mw_cond (t := true) rfl (fun _ => ?_) (fun h => absurd h (by decide))
    refine mw_seq (mw_ops ?_)
    iterate 2 (first | refine po_mv rfl (by conv => lhs; whnf) ?_ | refine po_s rfl rfl rfl ?_)
    refine po_g rfl ((leaf_drw (T := T) (hT := hT) hb pl).use ⟨trivial, trivial⟩ hc hn (p := 0) rfl) ?_
    rintro x bx n l ⟨c1, rfl, hc1, cs, v, rfl, hN, he, hg, hRT, hkl⟩
    refine po_stw (p := 1) (cs := cs) rfl rfl rfl (er_len he) rfl rfl ?_
    repeat' (first | refine po_mv rfl (by conv => lhs; whnf) ?_ | refine po_s rfl rfl rfl ?_ | refine po_box rfl ?_ | refine po_zero ?_ | refine po_nil ?_)
    exact mw_ret ⟨.inr rfl, [.ag cs], ress_box rfl rfl (er_len he), dvR_of hc1 hN he hg hRT (by omega)⟩
  | succ d ih =>
    intro hd c nt live hc hn
    have ih := ih (by omega)
    refine fng_of (R := DvR b 6 (mkB (d + 1)) nt live) (look_env lk_s_l02Make) (by show 3 ≤ 90; decide) fun B hB' => ?_
    have hBl := fun m => below_drw (T := T) (hT := hT) hb m
    unfold m_s_l02Make
    refine mw_seq (mw_ops ?_)
    repeat' (first | refine po_mv rfl (by conv => lhs; whnf) ?_ | refine po_s rfl rfl rfl ?_ | refine po_box rfl ?_ | refine po_zero ?_ | refine po_nil ?_)
    refine mw_cut (fun st => ∃ c1, Cu b c1 ∧ has st.tm [(0, .ref 0 0), (1, .d (pI ((d + 1 : Nat) : Int))), (2, .d (pB pl)), (6, .ref 1 0)] ∧ st.bx = [c1, zV] ∧ NR nt live st.nt st.live []) ?_ ?_
    · refine mw_seq (mw_ops ?_)
      first | refine po_mv rfl (by conv => lhs; whnf) ?_ | refine po_s rfl rfl rfl ?_
      refine po_no rfl rfl (decide_eq_false (by omega)) ?_
      iterate 2 (first | refine po_mv rfl (by conv => lhs; whnf) ?_ | refine po_s rfl rfl rfl ?_)
      refine po_gt rfl rfl ((once_drw (T := T) (hT := hT) hb 3).use ⟨trivial, trivial⟩ hc hn (p := 0) rfl) ?_
      rintro x bx n1 l1 ⟨c1, rfl, hc1, q, rfl, hN1⟩
      repeat' (first | refine po_mv rfl (by conv => lhs; whnf) ?_ | refine po_s rfl rfl rfl ?_ | refine po_box rfl ?_ | refine po_zero ?_ | refine po_nil ?_)
      cases q with
      | false =>
        refine mw_cond (t := false) rfl (fun h => absurd h (by decide)) (fun _ => ?_)
        refine mw_skip ?_
        exact ⟨c1, hc1, ⟨rfl, rfl, rfl, rfl, trivial⟩, rfl, hN1⟩
      | true =>
      refine mw_cond (t := true) rfl (fun _ => ?_) (fun h => absurd h (by decide))
      refine mw_seq (mw_ops ?_)
      iterate 2 (first | refine po_mv rfl (by conv => lhs; whnf) ?_ | refine po_s rfl rfl rfl ?_)
      refine po_g rfl ((leaf_drw (T := T) (hT := hT) hb pl).use ⟨trivial, trivial⟩ hc1 (hN1.n2 hn) (p := 0) rfl) ?_
      rintro x bx n l ⟨c2, rfl, hc2, cs, v, rfl, hN, he, hg, hRT, hkl⟩
      refine po_stw (p := 1) (cs := cs) rfl rfl rfl (er_len he) rfl rfl ?_
      repeat' (first | refine po_mv rfl (by conv => lhs; whnf) ?_ | refine po_s rfl rfl rfl ?_ | refine po_box rfl ?_ | refine po_zero ?_ | refine po_nil ?_)
      exact mw_ret ⟨.inr rfl, [.ag cs], ress_box rfl rfl (er_len he), dvR_of hc2 (hN1.trans hN) he (hg.mono (by show 20 ≤ 40 + 3 * mkB d; omega)) hRT (by omega)⟩
    rintro tm bx n1 l1 ⟨c1, hc1, ht, hbx, hN1⟩
    obtain ⟨tm0, rfl⟩ := has_ups ht
    simp only at hbx hN1; subst hbx
    clear ht
    have hn1 := hN1.n2 hn
    refine mw_seq (mw_ops ?_)
    refine po_s (v := .ag (vRow 7 1 [])) rfl rfl rfl ?_
    refine po_nw (cs := vRow 7 1 []) rfl rfl rfl rfl ?_
    repeat' (first | refine po_mv rfl (by conv => lhs; whnf) ?_ | refine po_s rfl rfl rfl ?_ | refine po_box rfl ?_ | refine po_zero ?_ | refine po_nil ?_)
    refine mw_seq (mw_ops ?_)
    first | refine po_mv rfl (by conv => lhs; whnf) ?_ | refine po_s rfl rfl rfl ?_
    refine po_g rfl ((hBl 4).use ⟨trivial, trivial⟩ hc1 hn1 (p := 0) rfl) ?_
    rintro x bx n2 l2 ⟨c2, rfl, hc2, m, rfl, m0, m1, hN2⟩
    obtain ⟨m, rfl⟩ : ∃ k' : Nat, m = k' := ⟨m.toNat, by omega⟩
    have hm : m ≤ 3 := by omega
    have hN12 := hN1.pass hN2
    have hn2 := hN12.n2 hn
    repeat' (first | refine po_mv rfl (by conv => lhs; whnf) ?_ | refine po_s rfl rfl rfl ?_ | refine po_box rfl ?_ | refine po_zero ?_ | refine po_nil ?_)
    refine mw_cut (fun st => ∃ c1, Cu b c1 ∧ has st.tm [(0, .ref 0 0), (1, .d (pI ((d + 1 : Nat) : Int))), (2, .d (pB pl)), (6, .ref 1 0), (7, .ref 2 0), (8, .d (pI m))] ∧ st.bx = [c1, zV, vRow 7 1 []] ∧ NR nt live st.nt st.live []) ?_ ?_
    · refine mw_seq (mw_ops ?_)
      first | refine po_mv rfl (by conv => lhs; whnf) ?_ | refine po_s rfl rfl rfl ?_
      refine po_g rfl ((hBl 5).use ⟨trivial, trivial⟩ hc2 hn2 (p := 0) rfl) ?_
      rintro x bx n3 l3 ⟨c3, rfl, hc3, r, rfl, r0, r1, hN3⟩
      have hN13 := hN12.pass hN3
      have hn3 := hN13.n2 hn
      refine po_nil ?_
      refine mw_block ?_
      refine mw_seq (mw_ops ?_)
      by_cases k0 : r = 0
      · refine po_yes rfl rfl (beq_iff_eq.2 k0) ?_
        repeat' (first | refine po_mv rfl (by conv => lhs; whnf) ?_ | refine po_s rfl rfl rfl ?_ | refine po_box rfl ?_ | refine po_zero ?_ | refine po_nil ?_)
        refine mw_cond (t := true) rfl (fun _ => ?_) (fun h => absurd h (by decide))
        refine mw_seq (mw_ops ?_)
        repeat' (first | refine po_mv rfl (by conv => lhs; whnf) ?_ | refine po_s rfl rfl rfl ?_ | refine po_box rfl ?_ | refine po_zero ?_ | refine po_nil ?_)
        cases pl with
        | true =>
          refine mw_cond (t := false) rfl (fun h => absurd h (by decide)) (fun _ => ?_)
          refine mw_skip ?_
          exact ⟨c3, hc3, ⟨rfl, rfl, rfl, rfl, rfl, rfl, trivial⟩, rfl, hN13⟩
        | false =>
        refine mw_cond (t := true) rfl (fun _ => ?_) (fun h => absurd h (by decide))
        refine mw_seq (mw_ops ?_)
        first | refine po_mv rfl (by conv => lhs; whnf) ?_ | refine po_s rfl rfl rfl ?_
        refine po_lit rfl ?_
        refine po_g rfl ((pickI_drw (T := T) (hT := hT) hb (fun r => decide (0 ≤ r) && decide (r ≤ 1000000)) rfl (by show 0 < 5; decide)).use ⟨by simp only [PV.lw, PC.lw]; exact allI_lw (p := fun r => decide (0 ≤ r) && decide (r ≤ 1000000)) rfl, trivial⟩ hc3 (by omega) (p := 0) rfl) ?_
        rintro x bx n4 l4 ⟨c4, rfl, hc4, v, rfl, hv, hN4⟩
        simp only [Bool.and_eq_true, decide_eq_true_eq] at hv
        have hN14 := hN13.up.pass hN4
        have hn4 := hN14.n2 hn
        iterate 2 (first | refine po_mv rfl (by conv => lhs; whnf) ?_ | refine po_s rfl rfl rfl ?_)
        refine po_sub (n := (d : Int)) rfl rfl rfl (by omega) (by omega) ?_
        first | refine po_mv rfl (by conv => lhs; whnf) ?_ | refine po_s rfl rfl rfl ?_
        refine po_g rfl (ih.use ⟨trivial, trivial, trivial⟩ hc4 hn4 (p := 0) rfl) ?_
        rintro x bx n5 l5 ⟨c5, rfl, hc5, cs, w, rfl, hN5, he, hg, hRT, hkl⟩
        have hcl := er_len he
        refine po_lit (es := [cs]) (by show (if cs.length = 5 then some [cs] else none) = some [cs]; rw [if_pos hcl]) ?_
        refine po_s (v := .ag [pI 9, pI v, pI 0, pS [], .sl n5 [cs]]) rfl rfl rfl ?_
        refine po_stw (p := 1) (cs := [pI 9, pI v, pI 0, pS [], .sl n5 [cs]]) rfl rfl rfl rfl rfl rfl ?_
        repeat' (first | refine po_mv rfl (by conv => lhs; whnf) ?_ | refine po_s rfl rfl rfl ?_ | refine po_box rfl ?_ | refine po_zero ?_ | refine po_nil ?_)
        have hNl := NR.lit (es := [cs]) hn (by simpa using (hN14.trans hN5))
        exact mw_ret ⟨.inr rfl, [.ag [pI 9, pI v, pI 0, pS [], .sl n5 [cs]]], rfl, dvR_of hc5 (hNl.plain (by simpa [ownedL, PC.owned, pI, pS] using hNl.own) (by simp [toksL, PC.toks, pI, pS])) (row_er (Kd.one he hg) 9 v 0 []) ((Kd.one he hg).gd (i64ok_n (by omega)) (i64ok_n (by omega)) (i64ok_n (by omega)) (fun h => by cases h) (by simp) (by simp) (by show 0 + 1 + mkB d ≤ 40 + 3 * mkB d; omega)) ⟨_, _, _, _, n5, [cs], rfl, .inr (by have := hN5.n2 hn4; omega)⟩ (by show 1 ≤ 6; decide)⟩
      refine po_no rfl rfl (beq_eq_false_iff_ne.2 k0) ?_
      repeat' (first | refine po_mv rfl (by conv => lhs; whnf) ?_ | refine po_s rfl rfl rfl ?_ | refine po_box rfl ?_ | refine po_zero ?_ | refine po_nil ?_)
      refine mw_cond (t := false) rfl (fun h => absurd h (by decide)) (fun _ => ?_)
      refine mw_cut (fun st => has st.tm [(0, .ref 0 0), (1, .d (pI ((d + 1 : Nat) : Int))), (2, .d (pB pl)), (6, .ref 1 0), (7, .ref 2 0), (8, .d (pI m)), (40, .d (pB (decide (r = 1 ∨ r = 2))))] ∧ st.bx = [c3, zV, vRow 7 1 []] ∧ st.nt = n3 ∧ st.live = l3) ?_ ?_
      · refine mw_seq (mw_ops ?_)
        by_cases k3 : r = 1
        · refine po_yes rfl rfl (beq_iff_eq.2 k3) ?_
          repeat' (first | refine po_mv rfl (by conv => lhs; whnf) ?_ | refine po_s rfl rfl rfl ?_ | refine po_box rfl ?_ | refine po_zero ?_ | refine po_nil ?_)
          refine mw_cond (t := true) rfl (fun _ => ?_) (fun h => absurd h (by decide))
          refine mw_skip ?_
          exact ⟨⟨rfl, rfl, rfl, rfl, rfl, rfl, by rw [decide_eq_true (.inl k3)]; rfl, trivial⟩, rfl, rfl, rfl⟩
        · refine po_no rfl rfl (beq_eq_false_iff_ne.2 k3) ?_
          repeat' (first | refine po_mv rfl (by conv => lhs; whnf) ?_ | refine po_s rfl rfl rfl ?_ | refine po_box rfl ?_ | refine po_zero ?_ | refine po_nil ?_)
          refine mw_cond (t := false) rfl (fun h => absurd h (by decide)) (fun _ => ?_)
          refine mw_ops ?_
          by_cases k4 : r = 2
          · refine po_yes rfl rfl (beq_iff_eq.2 k4) ?_
            repeat' (first | refine po_mv rfl (by conv => lhs; whnf) ?_ | refine po_s rfl rfl rfl ?_ | refine po_box rfl ?_ | refine po_zero ?_ | refine po_nil ?_)
            exact ⟨⟨rfl, rfl, rfl, rfl, rfl, rfl, by rw [decide_eq_true (.inr k4)]; rfl, trivial⟩, rfl, rfl, rfl⟩
          · refine po_no rfl rfl (beq_eq_false_iff_ne.2 k4) ?_
            repeat' (first | refine po_mv rfl (by conv => lhs; whnf) ?_ | refine po_s rfl rfl rfl ?_ | refine po_box rfl ?_ | refine po_zero ?_ | refine po_nil ?_)
            exact ⟨⟨rfl, rfl, rfl, rfl, rfl, rfl, by rw [decide_eq_false (by omega)]; rfl, trivial⟩, rfl, rfl, rfl⟩
      rintro tm bx n4 l4 ⟨ht, hbx, hn4, hl4⟩
      obtain ⟨tm1, rfl⟩ := has_ups ht
      simp only at hbx hn4 hl4; subst hbx; subst hn4; subst hl4
      clear ht tm0
      refine mw_cd0 (p := r = 1 ∨ r = 2) rfl (fun k => ?_) (fun k => ?_)
      rotate_left
      · refine mw_skip ?_
        exact ⟨c3, hc3, ⟨rfl, rfl, rfl, rfl, rfl, rfl, trivial⟩, rfl, hN13⟩
      refine mw_seq (mw_ops ?_)
      first | refine po_mv rfl (by conv => lhs; whnf) ?_ | refine po_s rfl rfl rfl ?_
      refine po_store (p := 2) (o' := 0) (cs := [pI 8]) (z := vRow 7 1 []) rfl rfl rfl ⟨rfl, by show 0 + 1 ≤ 5; decide⟩ rfl ?_
      refine po_nil ?_
      refine mw_cut (fun st => ∃ (t : Nat) (rows : List (List PC)) (ks : List V) (c : List PC) (rest : List (List PC)), Cu b c ∧ has st.tm [(6, .ref 1 0), (7, .ref 2 0)] ∧ st.bx = c :: zV :: vRow 8 t rows :: rest ∧ NR nt live st.nt st.live (vRow 8 t rows) ∧ (t = 1 ∧ rows = [] ∨ 2 ≤ t) ∧ ks.length ≤ 6 ∧ Kd (3 * (10 + mkB d)) rows ks) ?_ ?_
      · refine mw_seq (mw_ops ?_)
        repeat' (first | refine po_mv rfl (by conv => lhs; whnf) ?_ | refine po_s rfl rfl rfl ?_ | refine po_box rfl ?_ | refine po_zero ?_ | refine po_nil ?_)
        refine mw_block ?_
        refine mw_while (MkM b d pl m nt live) m ⟨0, 1, [], [], c3, [], Nat.zero_le _, rfl, hc3, ⟨rfl, rfl, rfl, rfl, rfl, rfl, rfl, trivial⟩, rfl, hN13.row0, .inl ⟨rfl, rfl⟩, rfl, by rw [Nat.zero_mul]; exact Kd.nil⟩ ?_
        rintro k' tm bx n4 l4 ⟨i, t, rows, ks, c4, rest, hi, rfl, hc4, ht, hbx, hN4, ht2, hks, hKd⟩
        obtain ⟨tm0, rfl⟩ := has_ups ht
        simp only at hbx hN4; subst hbx
        clear ht
        have hn4 := hN4.n2 hn
        refine mw_seq (mw_seq (mw_ops ?_))
        iterate 2 (first | refine po_mv rfl (by conv => lhs; whnf) ?_ | refine po_s rfl rfl rfl ?_)
        refine po_b rfl rfl (fun q hq => ?_)
        refine po_nil ?_
        refine mw_cd (p := (i : Int) < m) hq rfl (fun him _ => ?_) (fun him _ => ?_)
        rotate_left
        · refine mw_exit ?_
          have hmul : i * (10 + mkB d) ≤ 3 * (10 + mkB d) := Nat.mul_le_mul_right _ (by omega)
          exact ⟨t, rows, ks, c4, rest, hc4, ⟨rfl, rfl, trivial⟩, rfl, hN4, ht2, by omega, hKd.mono hmul⟩
        refine mw_skip ?_
        refine mw_seq (mw_block ?_)
        refine mw_seq (mw_ops ?_)
        refine po_lit rfl ?_
        first | refine po_mv rfl (by conv => lhs; whnf) ?_ | refine po_s rfl rfl rfl ?_
        have hi3 : i < [[pS [110, 97, 109, 101]], [pS [105, 100]], [pS [108, 105, 115, 116]], [pS [99, 111, 109, 109, 111, 110, 32, 107, 101, 121]]].length := by show i < 4; omega
        obtain ⟨s, hs, hsl⟩ := allS_at (p := fun s => decide (s.length ≤ 10)) rfl hi3
        have hsl := of_decide_eq_true hsl
        refine po_ix (es := [[pS [110, 97, 109, 101]], [pS [105, 100]], [pS [108, 105, 115, 116]], [pS [99, 111, 109, 109, 111, 110, 32, 107, 101, 121]]]) (e := [pS s]) rfl rfl rfl ⟨by omega, by rw [Int.toNat_natCast, List.getElem?_eq_getElem hi3, hs]⟩ rfl ?_
        first | refine po_mv rfl (by conv => lhs; whnf) ?_ | refine po_s rfl rfl rfl ?_
        refine po_call rfl (str_fn (T := T) (hT := hT) s) ?_
        refine po_nw (cs := vC (.mk 5 0 0 s [])) rfl rfl rfl rfl ?_
        repeat' (first | refine po_mv rfl (by conv => lhs; whnf) ?_ | refine po_s rfl rfl rfl ?_ | refine po_box rfl ?_ | refine po_zero ?_ | refine po_nil ?_)
        refine mw_cut (fun st => ∃ (c : List PC) (kv : V), Cu b c ∧ (Gd 10 kv ∧ kv.kids = []) ∧ NR nt live st.nt st.live (vRow 8 t rows) ∧ has st.tm [(0, .ref 0 0), (1, .d (pI ((d + 1 : Nat) : Int))), (2, .d (pB pl)), (6, .ref 1 0), (7, .ref 2 0), (8, .d (pI m)), (9, .d (pI i)), (10, .ref (rest.length + 3) 0)] ∧ st.bx = c :: zV :: vRow 8 t rows :: (rest ++ [vC kv])) ?_ ?_
        · refine mw_cut (fun st => ∃ (c : List PC) (q : Bool), Cu b c ∧ NR nt live st.nt st.live (vRow 8 t rows) ∧ has st.tm [(0, .ref 0 0), (1, .d (pI ((d + 1 : Nat) : Int))), (2, .d (pB pl)), (6, .ref 1 0), (7, .ref 2 0), (8, .d (pI m)), (9, .d (pI i)), (10, .ref (rest.length + 3) 0), (59, .d (pB q))] ∧ st.bx = c :: zV :: vRow 8 t rows :: (rest ++ [vC (.mk 5 0 0 s [])])) ?_ ?_
          · refine mw_ops ?_
            first | refine po_mv rfl (by conv => lhs; whnf) ?_ | refine po_s rfl rfl rfl ?_
            refine po_g rfl ((once_drw (T := T) (hT := hT) hb 8).use ⟨trivial, trivial⟩ hc4 (by omega) (p := 0) rfl) ?_
            rintro x bx n5 l5 ⟨c5, rfl, hc5, q, rfl, hN5⟩
            have hN45 := (hN4.up.trans hN5)
            rw [List.append_nil] at hN45
            first | refine po_mv rfl (by conv => lhs; whnf) ?_ | refine po_s rfl rfl rfl ?_
            cases q with
            | true =>
              iterate 2 (first | refine po_mv rfl (by conv => lhs; whnf) ?_ | refine po_s rfl rfl rfl ?_)
              repeat' (first | refine po_mv rfl (by conv => lhs; whnf) ?_ | refine po_s rfl rfl rfl ?_ | refine po_box rfl ?_ | refine po_zero ?_ | refine po_nil ?_)
              exact ⟨c5, !pl, hc5, hN45, ⟨rfl, rfl, rfl, rfl, rfl, rfl, rfl, rfl, rfl, trivial⟩, rfl⟩
            | false =>
              iterate 2 (refine po_skip rfl ?_)
              repeat' (first | refine po_mv rfl (by conv => lhs; whnf) ?_ | refine po_s rfl rfl rfl ?_ | refine po_box rfl ?_ | refine po_zero ?_ | refine po_nil ?_)
              exact ⟨c5, false, hc5, hN45, ⟨rfl, rfl, rfl, rfl, rfl, rfl, rfl, rfl, rfl, trivial⟩, rfl⟩
          rintro tm bx n5 l5 ⟨c5, q, hc5, hN5, ht, hbx⟩
          obtain ⟨tm1, rfl⟩ := has_ups ht
          simp only at hbx hN5; subst hbx
          clear ht
          cases q with
          | false =>
            refine mw_cond (t := false) rfl (fun h => absurd h (by decide)) (fun _ => ?_)
            refine mw_skip ?_
            exact ⟨c5, .mk 5 0 0 s [], hc5, ⟨leaf_gd (i64ok_n (by omega)) (i64ok_n (by omega)) (i64ok_n (by omega)) hsl (by decide), rfl⟩, hN5, ⟨rfl, rfl, rfl, rfl, rfl, rfl, rfl, rfl, trivial⟩, rfl⟩
          | true =>
            refine mw_cond (t := true) rfl (fun _ => ?_) (fun h => absurd h (by decide))
            refine mw_ops ?_
            first | refine po_mv rfl (by conv => lhs; whnf) ?_ | refine po_s rfl rfl rfl ?_
            refine po_call rfl (intD_fn (T := T) (hT := hT) (i : Int)) ?_
            refine po_stw (p := rest.length + 3) (cs := vC (.mk 3 i 0 [] [])) (z := vC (.mk 5 0 0 s [])) rfl rfl (gl_last rest _) rfl rfl rfl ?_
            repeat' (first | refine po_mv rfl (by conv => lhs; whnf) ?_ | refine po_s rfl rfl rfl ?_ | refine po_box rfl ?_ | refine po_zero ?_ | refine po_nil ?_)
            refine ⟨c5, .mk 3 i 0 [] [], hc5, ⟨leaf_gd (i64ok_n (by omega)) (i64ok_n (by omega)) (i64ok_n (by omega)) (Nat.zero_le _) (by decide), rfl⟩, hN5, ⟨rfl, rfl, rfl, rfl, rfl, rfl, rfl, rfl, trivial⟩, ?_⟩
            show c5 :: zV :: vRow 8 t rows :: ((rest ++ [vC (.mk 5 0 0 s [])]).set rest.length _) = _
            rw [List.set_append_right _ _ (Nat.le_refl _), Nat.sub_self]; rfl
        rintro tm bx n5 l5 ⟨c5, kv, hc5, ⟨hkv, hkk⟩, hN5, ht, hbx⟩
        obtain ⟨tm1, rfl⟩ := has_ups ht
        simp only at hbx hN5; subst hbx
        clear ht tm0
        have hn5 := hN5.n2 hn
        refine mw_ops ?_
        first | refine po_mv rfl (by conv => lhs; whnf) ?_ | refine po_s rfl rfl rfl ?_
        refine po_ldx (cs := vRow 8 t rows) (v := .d (.sl t rows)) rfl rfl rfl (by show 4 + 1 ≤ 5; decide) rfl ?_
        refine po_ldw (p := rest.length + 3) (cs := vC kv) rfl rfl (gl_last rest _) rfl ?_
        iterate 2 (first | refine po_mv rfl (by conv => lhs; whnf) ?_ | refine po_s rfl rfl rfl ?_)
        refine po_sub (n := (d : Int)) rfl rfl rfl (by omega) (by omega) ?_
        first | refine po_mv rfl (by conv => lhs; whnf) ?_ | refine po_s rfl rfl rfl ?_
        refine po_gk rfl (ih.use ⟨trivial, trivial, trivial⟩ hc5 hn5 (p := 0) rfl) ?_ ?_
        · rintro x bx n l ⟨c', rfl, _⟩ y hy
          simp only [List.mem_cons, List.not_mem_nil, or_false] at hy
          rcases hy with rfl | rfl
          · exact keep_t (p := 1) (o := 4) rfl
          · exact keep_t (p := rest.length + 2) (o := 0) rfl
        rintro x bx n6 l6 ⟨c6, rfl, hc6, cs, w, rfl, hN6, he, hg, hRT, hkl⟩
        have hcl := er_len he
        refine po_litq (litP2 (a := vC kv) (b := cs) rfl rfl rfl hcl) ?_
        refine po_app (t := t) (t' := 0) (es := rows) (ds := [vC kv, cs]) rfl rfl (NR.rowt2 ht2 hN5 hN6) (by rw [hKd.len]; simp only [List.length_cons, List.length_nil]; omega) (fun e he => by simp only [List.mem_cons, List.not_mem_nil, or_false] at he; rcases he with rfl | rfl; rfl; exact hcl) hKd.wid ?_
        first | refine po_mv rfl (by conv => lhs; whnf) ?_ | refine po_s rfl rfl rfl ?_
        refine po_store (p := 2) (o' := 4) (cs := [.sl n6 (rows ++ [vC kv, cs])]) (z := vRow 8 t rows) rfl rfl rfl ⟨rfl, by show 4 + 1 ≤ 5; decide⟩ rfl ?_
        refine po_nil ?_
        refine mw_ops ?_
        first | refine po_mv rfl (by conv => lhs; whnf) ?_ | refine po_s rfl rfl rfl ?_
        refine po_add (n := ((i + 1 : Nat) : Int)) rfl rfl rfl (by omega) (by omega) ?_
        repeat' (first | refine po_mv rfl (by conv => lhs; whnf) ?_ | refine po_s rfl rfl rfl ?_ | refine po_box rfl ?_ | refine po_zero ?_ | refine po_nil ?_)
        have hds : NR n5 l5 n6 l6 [vC kv, cs].flatten := by
          obtain ⟨o1, o2⟩ := leafC kv hkk
          exact hN6.plain (by show ownedL (vC kv ++ (cs ++ [])) = true; rw [ownedL_append, o1, List.append_nil, hN6.own]; rfl) (by show toksL (vC kv ++ (cs ++ [])) = _; rw [toksL_append, o2, List.append_nil]; rfl)
        exact ⟨_, by show m - (i + 1) < m - i; omega, i + 1, n6, rows ++ [vC kv, cs], ks ++ [kv, w], c6, rest ++ [vC kv], by omega, rfl, hc6, ⟨rfl, rfl, rfl, rfl, rfl, rfl, rfl, trivial⟩, rfl, NR.kids hn ht2 hN5 hds, .inr (by have := hN6.n2 hn5; omega), by rw [List.length_append]; simp only [List.length_cons, List.length_nil]; omega, by rw [Nat.succ_mul]; exact hKd.app ((Kd.one (vC_er kv) hkv).app (Kd.one he hg))⟩
      rintro tm bx n4 l4 ⟨t, rows, ks, c4, rest, hc4, ht, hbx, hN4, ht2, hks, hKd⟩
      obtain ⟨tm1, rfl⟩ := has_ups ht
      simp only at hbx hN4; subst hbx
      clear ht
      refine mw_seq (mw_ops ?_)
      refine po_ldw (p := 2) (cs := vRow 8 t rows) rfl rfl rfl rfl ?_
      refine po_stw (p := 1) (cs := vRow 8 t rows) rfl rfl rfl rfl rfl rfl ?_
      repeat' (first | refine po_mv rfl (by conv => lhs; whnf) ?_ | refine po_s rfl rfl rfl ?_ | refine po_box rfl ?_ | refine po_zero ?_ | refine po_nil ?_)
      exact mw_ret ⟨.inr rfl, [.ag (vRow 8 t rows)], rfl, dvR_of hc4 hN4 (row_er hKd 8 0 0 []) (hKd.gd (i64ok_n (by omega)) (i64ok_n (by omega)) (i64ok_n (by omega)) (fun _ => by omega) (by omega) (by simp) (by show 0 + ks.length + 3 * (10 + mkB d) ≤ 40 + 3 * mkB d; omega)) ⟨_, _, _, _, t, rows, rfl, ht2⟩ (by show ks.length ≤ 6; omega)⟩
    rintro tm bx n3 l3 ⟨c3, hc3, ht, hbx, hN3⟩
    obtain ⟨tm1, rfl⟩ := has_ups ht
    simp only at hbx hN3; subst hbx
    clear ht
    refine mw_cut (fun st => ∃ (t : Nat) (rows : List (List PC)) (ks : List V) (c : List PC) (rest : List (List PC)), Cu b c ∧ has st.tm [(6, .ref 1 0), (7, .ref 2 0)] ∧ st.bx = c :: zV :: vRow 7 t rows :: rest ∧ NR nt live st.nt st.live (vRow 7 t rows) ∧ (t = 1 ∧ rows = [] ∨ 2 ≤ t) ∧ ks.length ≤ 3 ∧ Kd (3 * mkB d) rows ks) ?_ ?_
    · refine mw_seq (mw_ops ?_)
      repeat' (first | refine po_mv rfl (by conv => lhs; whnf) ?_ | refine po_s rfl rfl rfl ?_ | refine po_box rfl ?_ | refine po_zero ?_ | refine po_nil ?_)
      refine mw_block ?_
      refine mw_while (MkL b d pl m nt live) m ⟨0, 1, [], [], c3, [], Nat.zero_le _, rfl, hc3, ⟨rfl, rfl, rfl, rfl, rfl, rfl, rfl, trivial⟩, rfl, hN3.row0, .inl ⟨rfl, rfl⟩, rfl, by rw [Nat.zero_mul]; exact Kd.nil⟩ ?_
      rintro k' tm bx n4 l4 ⟨i, t, rows, ks, c4, rest, hi, rfl, hc4, ht, hbx, hN4, ht2, hks, hKd⟩
      obtain ⟨tm2, rfl⟩ := has_ups ht
      simp only at hbx hN4; subst hbx
      clear ht
      have hn4 := hN4.n2 hn
      refine mw_seq (mw_seq (mw_ops ?_))
      iterate 2 (first | refine po_mv rfl (by conv => lhs; whnf) ?_ | refine po_s rfl rfl rfl ?_)
      refine po_b rfl rfl (fun q hq => ?_)
      refine po_nil ?_
      refine mw_cd (p := (i : Int) < m) hq rfl (fun him _ => ?_) (fun him _ => ?_)
      rotate_left
      · refine mw_exit ?_
        have hmul : i * mkB d ≤ 3 * mkB d := Nat.mul_le_mul_right _ (by omega)
        exact ⟨t, rows, ks, c4, rest, hc4, ⟨rfl, rfl, trivial⟩, rfl, hN4, ht2, by omega, hKd.mono hmul⟩
      refine mw_skip ?_
      refine mw_seq (mw_block (mw_ops ?_))
      first | refine po_mv rfl (by conv => lhs; whnf) ?_ | refine po_s rfl rfl rfl ?_
      refine po_ldx (cs := vRow 7 t rows) (v := .d (.sl t rows)) rfl rfl rfl (by show 4 + 1 ≤ 5; decide) rfl ?_
      iterate 2 (first | refine po_mv rfl (by conv => lhs; whnf) ?_ | refine po_s rfl rfl rfl ?_)
      refine po_sub (n := (d : Int)) rfl rfl rfl (by omega) (by omega) ?_
      first | refine po_mv rfl (by conv => lhs; whnf) ?_ | refine po_s rfl rfl rfl ?_
      refine po_gk rfl (ih.use ⟨trivial, trivial, trivial⟩ hc4 hn4 (p := 0) rfl) ?_ ?_
      · rintro x bx n l ⟨c', rfl, _⟩ y hy
        simp only [List.mem_cons, List.not_mem_nil, or_false] at hy
        subst hy
        exact keep_t (p := 1) (o := 4) rfl
      rintro x bx n6 l6 ⟨c6, rfl, hc6, cs, w, rfl, hN6, he, hg, hRT, hkl⟩
      have hcl := er_len he
      refine po_litq (litP1 (a := cs) rfl hcl) ?_
      refine po_app (t := t) (t' := 0) (es := rows) (ds := [cs]) rfl rfl (NR.rowt2 ht2 hN4 hN6) (by rw [hKd.len]; simp only [List.length_cons, List.length_nil]; omega) (fun e he => by simp only [List.mem_singleton] at he; subst he; exact hcl) hKd.wid ?_
      first | refine po_mv rfl (by conv => lhs; whnf) ?_ | refine po_s rfl rfl rfl ?_
      refine po_store (p := 2) (o' := 4) (cs := [.sl n6 (rows ++ [cs])]) (z := vRow 7 t rows) rfl rfl rfl ⟨rfl, by show 4 + 1 ≤ 5; decide⟩ rfl ?_
      refine po_nil ?_
      refine mw_ops ?_
      first | refine po_mv rfl (by conv => lhs; whnf) ?_ | refine po_s rfl rfl rfl ?_
      refine po_add (n := ((i + 1 : Nat) : Int)) rfl rfl rfl (by omega) (by omega) ?_
      repeat' (first | refine po_mv rfl (by conv => lhs; whnf) ?_ | refine po_s rfl rfl rfl ?_ | refine po_box rfl ?_ | refine po_zero ?_ | refine po_nil ?_)
      have hds : NR n4 l4 n6 l6 [cs].flatten := by simpa using hN6
      exact ⟨_, by show m - (i + 1) < m - i; omega, i + 1, n6, rows ++ [cs], ks ++ [w], c6, rest, by omega, rfl, hc6, ⟨rfl, rfl, rfl, rfl, rfl, rfl, rfl, trivial⟩, rfl, NR.kids hn ht2 hN4 hds, .inr (by have := hN6.n2 hn4; omega), by rw [List.length_append, List.length_singleton]; omega, by rw [Nat.succ_mul]; exact hKd.app (Kd.one he hg)⟩
    rintro tm bx n4 l4 ⟨t, rows, ks, c4, rest, hc4, ht, hbx, hN4, ht2, hks, hKd⟩
    obtain ⟨tm2, rfl⟩ := has_ups ht
    simp only at hbx hN4; subst hbx
    clear ht
    refine mw_seq (mw_ops ?_)
    refine po_ldw (p := 2) (cs := vRow 7 t rows) rfl rfl rfl rfl ?_
    refine po_stw (p := 1) (cs := vRow 7 t rows) rfl rfl rfl rfl rfl rfl ?_
    repeat' (first | refine po_mv rfl (by conv => lhs; whnf) ?_ | refine po_s rfl rfl rfl ?_ | refine po_box rfl ?_ | refine po_zero ?_ | refine po_nil ?_)
    exact mw_ret ⟨.inr rfl, [.ag (vRow 7 t rows)], rfl, dvR_of hc4 hN4 (row_er hKd 7 0 0 []) (hKd.gd (i64ok_n (by omega)) (i64ok_n (by omega)) (i64ok_n (by omega)) (fun h => by cases h) (by omega) (by simp) (by show 0 + ks.length + 3 * mkB d ≤ 40 + 3 * mkB d; omega)) ⟨_, _, _, _, t, rows, rfl, ht2⟩ (by show ks.length ≤ 6; omega)⟩
end Go.Proofs.YthngfihpnfoppaaDoor

namespace Go.Proofs.YthngfihpnfoppaaDoor
open Go.RowKit
variable {T : World → Prop} {hT : Low ngl T}
attribute [local irreducible] po mw pt

theorem er_v {c : PC} {x : Value} (h : c.er = .v x) : c = .v x := by
  cases c <;> simp [PC.er] at h
  rw [h]
/-- what a drawn value's cells are -/
theorem qv_form {cs : List PC} {v : V} (he : erL cs = vC v) (hR : RowT cs) : ∃ (t : Nat) (rows : List (List PC)), cs = [pI v.kind, pI v.num, pI v.exp, pS v.text, .sl t rows] ∧ (t = 1 ∧ rows = [] ∨ 2 ≤ t) ∧ erLL rows = vK v.kids := by
  obtain ⟨a, b, c, d, t, rows, rfl, ht⟩ := hR
  simp only [erL, vC, List.cons.injEq, and_true, PC.er, PC.sl.injEq, true_and] at he
  obtain ⟨h1, h2, h3, h4, h5⟩ := he
  refine ⟨t, rows, ?_, ht, h5⟩
  rw [er_v h1, er_v h2, er_v h3, er_v h4]; rfl
def vcs (k n e : Int) (s : List UInt8) (t : Nat) (rows : List (List PC)) : List PC := [pI k, pI n, pI e, pS s, .sl t rows]
/-- a value in the second variable -/
def AnP (b : List UInt8) (B nt : Nat) (live : List Nat) (st : St) : Prop :=
  ∃ (c : List PC) (k n e : Int) (s : List UInt8) (t : Nat) (rows : List (List PC)) (ks : List V) (rest : List (List PC)), Cu b c ∧ has st.tm [(0, .ref 0 0), (2, .ref 1 0), (3, .ref 2 0)] ∧ st.bx = c :: zV :: vcs k n e s t rows :: rest ∧
    NR nt live st.nt st.live (vcs k n e s t rows) ∧ (t = 1 ∧ rows = [] ∨ 2 ≤ t) ∧ erLL rows = vK ks ∧ Gd B (.mk k n e s ks) ∧ ks.length ≤ 302
theorem Gd.kd {B : Nat} {k n e : Int} {s : List UInt8} {ks : List V} (h : Gd B (.mk k n e s ks)) {rows : List (List PC)} (he : erLL rows = vK ks) : Kd (V.bulks ks) rows ks := ⟨he, h.wf.2.2.2.2.2, h.few.2, Nat.le_refl _⟩
theorem NR.recell {nt n t : Nat} {live l : List Nat} {k m e k' m' e' : Int} {s s' : List UInt8} {rows : List (List PC)} (h : NR nt live n l (vcs k m e s t rows)) : NR nt live n l (vcs k' m' e' s' t rows) := h.plain h.own rfl
theorem NR.row7 {nt n t : Nat} {live l : List Nat} {k m e : Int} {s : List UInt8} {rows : List (List PC)} (h : NR nt live n l (vcs k m e s t rows)) (q : Nat) : NR nt live n l (vRow q t rows) := h.plain h.own rfl
theorem NR.vcs {nt n t q : Nat} {live l : List Nat} {k m e : Int} {s : List UInt8} {rows : List (List PC)} (h : NR nt live n l (vRow q t rows)) : NR nt live n l (vcs k m e s t rows) := h.plain h.own rfl
theorem bulk_len {k n e : Int} {s : List UInt8} {ks : List V} {B : Nat} (h : Gd B (.mk k n e s ks)) : ks.length ≤ B ∧ s.length + ks.length + V.bulks ks ≤ B := by
  have := h.bulk
  simp only [V.bulk] at this; omega
set_option maxHeartbeats 2000000 in
theorem any_drw {b : List UInt8} (hb : b.length ≤ 2147483647) : Drw (env T hT) b 11 [] (QV 302 4000) := by
  rintro c nt live hc hn
  refine fng_of (R := DvR b 302 4000 nt live) (look_env lk_s_l02Any) (by show 1 ≤ 74; decide) fun B hB' => ?_
  have hBl := fun m => below_drw (T := T) (hT := hT) hb m
  unfold m_s_l02Any
  refine mw_seq (mw_ops ?_)
  repeat' (first | refine po_mv rfl (by conv => lhs; whnf) ?_ | refine po_s rfl rfl rfl ?_ | refine po_box rfl ?_ | refine po_zero ?_ | refine po_nil ?_)
  refine mw_seq (mw_ops ?_)
  iterate 2 (first | refine po_mv rfl (by conv => lhs; whnf) ?_ | refine po_s rfl rfl rfl ?_)
  refine po_g rfl ((once_drw (T := T) (hT := hT) hb 3).use ⟨trivial, trivial⟩ hc hn (p := 0) rfl) ?_
  rintro x bx n1 l1 ⟨c1, rfl, hc1, q, rfl, hN1⟩
  refine po_g rfl ((make_drw (T := T) (hT := hT) hb q 3 (Nat.le_refl _)).use ⟨trivial, trivial, trivial⟩ hc1 (hN1.n2 hn) (p := 0) rfl) ?_
  rintro x bx n2 l2 ⟨c2, rfl, hc2, cs, v, rfl, hN2, he, hg, hR, hk6⟩
  have hN12 : NR nt live n2 l2 cs := by simpa using hN1.trans hN2
  obtain ⟨t, rows, hcs, ht2, hrows⟩ := qv_form he hR
  obtain ⟨k, n, e, s, ks⟩ := v
  simp only [V.kind, V.num, V.exp, V.text, V.kids] at hcs hrows hk6
  subst hcs
  have hg : Gd 1500 (.mk k n e s ks) := hg.mono (by decide)
  clear he hR hN1 hN2
  refine po_nw (cs := vcs k n e s t rows) rfl rfl rfl rfl ?_
  repeat' (first | refine po_mv rfl (by conv => lhs; whnf) ?_ | refine po_s rfl rfl rfl ?_ | refine po_box rfl ?_ | refine po_zero ?_ | refine po_nil ?_)
  have hbl := bulk_len hg
  have hwf := hg.wf
  refine mw_cut (fun st => AnP b 4000 nt live st) ?_ ?_
  · have keep : ∀ (c3 : List PC) (hc3 : Cu b c3) (st : St), has st.tm [(0, .ref 0 0), (2, .ref 1 0), (3, .ref 2 0)] → st.bx = c3 :: zV :: vcs k n e s t rows :: [] → NR nt live st.nt st.live (vcs k n e s t rows) → AnP b 4000 nt live st := fun c3 hc3 st h1 h2 h3 => ⟨c3, k, n, e, s, t, rows, ks, [], hc3, h1, h2, h3, ht2, hrows, hg.mono (by decide), by omega⟩
    refine mw_seq (mw_ops ?_)
    first | refine po_mv rfl (by conv => lhs; whnf) ?_ | refine po_s rfl rfl rfl ?_
    refine po_g rfl ((hBl 24).use ⟨trivial, trivial⟩ hc2 (hN12.n2 hn) (p := 0) rfl) ?_
    rintro x bx n3 l3 ⟨c3, rfl, hc3, r, rfl, r0, r1, hN3⟩
    have hN13 := hN12.pass hN3
    have hn3 := hN13.n2 hn
    refine po_nil ?_
    refine mw_block ?_
    refine mw_seq (mw_ops ?_)
    by_cases k0 : r = 0
    · refine po_yes rfl rfl (beq_iff_eq.2 k0) ?_
      repeat' (first | refine po_mv rfl (by conv => lhs; whnf) ?_ | refine po_s rfl rfl rfl ?_ | refine po_box rfl ?_ | refine po_zero ?_ | refine po_nil ?_)
      refine mw_cond (t := true) rfl (fun _ => ?_) (fun h => absurd h (by decide))
      refine mw_ops ?_
      first | refine po_mv rfl (by conv => lhs; whnf) ?_ | refine po_s rfl rfl rfl ?_
      refine po_g rfl ((hBl 12).use ⟨trivial, trivial⟩ hc3 hn3 (p := 0) rfl) ?_
      rintro x bx n4 l4 ⟨c4, rfl, hc4, v, rfl, v0, v1, hN4⟩
      refine po_sub (n := v - 1) rfl rfl rfl rfl (by omega) ?_
      first | refine po_mv rfl (by conv => lhs; whnf) ?_ | refine po_s rfl rfl rfl ?_
      refine po_store (p := 2) (o' := 0) (cs := [pI (v - 1)]) (z := vcs k n e s t rows) rfl rfl rfl ⟨rfl, by show 0 + 1 ≤ 5; decide⟩ rfl ?_
      refine po_nil ?_
      refine ⟨c4, v - 1, n, e, s, t, rows, ks, [], hc4, ⟨rfl, rfl, rfl, trivial⟩, rfl, (hN13.pass hN4).recell, ht2, hrows, ⟨⟨i64ok_n (by omega), hwf.2⟩, ⟨fun _ => by omega, hg.few.2⟩, by simp only [V.bulk]; omega⟩, by omega⟩
    refine po_no rfl rfl (beq_eq_false_iff_ne.2 k0) ?_
    repeat' (first | refine po_mv rfl (by conv => lhs; whnf) ?_ | refine po_s rfl rfl rfl ?_ | refine po_box rfl ?_ | refine po_zero ?_ | refine po_nil ?_)
    refine mw_cond (t := false) rfl (fun h => absurd h (by decide)) (fun _ => ?_)
    refine mw_seq (mw_ops ?_)
    by_cases k1 : r = 1
    · refine po_yes rfl rfl (beq_iff_eq.2 k1) ?_
      repeat' (first | refine po_mv rfl (by conv => lhs; whnf) ?_ | refine po_s rfl rfl rfl ?_ | refine po_box rfl ?_ | refine po_zero ?_ | refine po_nil ?_)
      refine mw_cond (t := true) rfl (fun _ => ?_) (fun h => absurd h (by decide))
      refine mw_ops ?_
      first | refine po_mv rfl (by conv => lhs; whnf) ?_ | refine po_s rfl rfl rfl ?_
      refine po_lit rfl ?_
      refine po_g rfl ((pickI_drw (T := T) (hT := hT) hb i64B rfl (by show 0 < 4; decide)).use ⟨by simp only [PV.lw, PC.lw]; exact allI_lw (p := i64B) rfl, trivial⟩ hc3 (by omega) (p := 0) rfl) ?_
      rintro x bx n4 l4 ⟨c4, rfl, hc4, v, rfl, hv, hN4⟩
      first | refine po_mv rfl (by conv => lhs; whnf) ?_ | refine po_s rfl rfl rfl ?_
      refine po_store (p := 2) (o' := 1) (cs := [pI v]) (z := vcs k n e s t rows) rfl rfl rfl ⟨rfl, by show 1 + 1 ≤ 5; decide⟩ rfl ?_
      refine po_nil ?_
      refine ⟨c4, k, v, e, s, t, rows, ks, [], hc4, ⟨rfl, rfl, rfl, trivial⟩, rfl, (hN13.up.pass hN4).recell, ht2, hrows, ⟨⟨hwf.1, i64B_ok hv, hwf.2.2⟩, hg.few, by simp only [V.bulk]; omega⟩, by omega⟩
    refine po_no rfl rfl (beq_eq_false_iff_ne.2 k1) ?_
    repeat' (first | refine po_mv rfl (by conv => lhs; whnf) ?_ | refine po_s rfl rfl rfl ?_ | refine po_box rfl ?_ | refine po_zero ?_ | refine po_nil ?_)
    refine mw_cond (t := false) rfl (fun h => absurd h (by decide)) (fun _ => ?_)
    refine mw_seq (mw_ops ?_)
    by_cases k2 : r = 2
    · refine po_yes rfl rfl (beq_iff_eq.2 k2) ?_
      repeat' (first | refine po_mv rfl (by conv => lhs; whnf) ?_ | refine po_s rfl rfl rfl ?_ | refine po_box rfl ?_ | refine po_zero ?_ | refine po_nil ?_)
      refine mw_cond (t := true) rfl (fun _ => ?_) (fun h => absurd h (by decide))
      refine mw_ops ?_
      first | refine po_mv rfl (by conv => lhs; whnf) ?_ | refine po_s rfl rfl rfl ?_
      refine po_ldx (cs := vcs k n e s t rows) (v := .d (.sl t rows)) rfl rfl rfl (by show 4 + 1 ≤ 5; decide) rfl ?_
      first | refine po_mv rfl (by conv => lhs; whnf) ?_ | refine po_s rfl rfl rfl ?_
      refine po_gk rfl ((leaf_drw (T := T) (hT := hT) hb false).use ⟨trivial, trivial⟩ hc3 hn3 (p := 0) rfl) ?_ ?_
      · rintro x bx n l ⟨c', rfl, _⟩ y hy
        simp only [List.mem_cons, List.not_mem_nil, or_false] at hy
        subst hy
        exact keep_t (p := 1) (o := 4) rfl
      rintro x bx n4 l4 ⟨c4, rfl, hc4, cs, w, rfl, hN4, he, hgw, _, _⟩
      have hcl := er_len he
      refine po_litq (litP1 (a := cs) rfl hcl) ?_
      have hK := (hg.kd hrows).app (Kd.one he hgw)
      refine po_app (t := t) (t' := 0) (es := rows) (ds := [cs]) rfl rfl (NR.rowt2 ht2 (hN13.row7 7) hN4) (by rw [(hg.kd hrows).len]; simp only [List.length_cons, List.length_nil]; omega) (fun e he => by simp only [List.mem_singleton] at he; subst he; exact hcl) (hg.kd hrows).wid ?_
      first | refine po_mv rfl (by conv => lhs; whnf) ?_ | refine po_s rfl rfl rfl ?_
      refine po_store (p := 2) (o' := 4) (cs := [.sl n4 (rows ++ [cs])]) (z := vcs k n e s t rows) rfl rfl rfl ⟨rfl, by show 4 + 1 ≤ 5; decide⟩ rfl ?_
      refine po_nil ?_
      have hds : NR n3 l3 n4 l4 [cs].flatten := by simpa using hN4
      exact ⟨c4, k, n, e, s, n4, rows ++ [cs], ks ++ [w], [], hc4, ⟨rfl, rfl, rfl, trivial⟩, rfl, (NR.kids hn ht2 (hN13.row7 7) hds).vcs, .inr (by have := hN4.n2 hn3; omega), hK.er, hK.gd hwf.1 hwf.2.1 hwf.2.2.1 (fun h8 => by rw [List.length_append, List.length_singleton]; omega) (by rw [List.length_append, List.length_singleton]; omega) (by omega) (by rw [List.length_append, List.length_singleton]; omega), by rw [List.length_append, List.length_singleton]; omega⟩
    refine po_no rfl rfl (beq_eq_false_iff_ne.2 k2) ?_
    repeat' (first | refine po_mv rfl (by conv => lhs; whnf) ?_ | refine po_s rfl rfl rfl ?_ | refine po_box rfl ?_ | refine po_zero ?_ | refine po_nil ?_)
    refine mw_cond (t := false) rfl (fun h => absurd h (by decide)) (fun _ => ?_)
    refine mw_seq (mw_ops ?_)
    by_cases k3 : r = 3
    · refine po_yes rfl rfl (beq_iff_eq.2 k3) ?_
      repeat' (first | refine po_mv rfl (by conv => lhs; whnf) ?_ | refine po_s rfl rfl rfl ?_ | refine po_box rfl ?_ | refine po_zero ?_ | refine po_nil ?_)
      refine mw_cond (t := true) rfl (fun _ => ?_) (fun h => absurd h (by decide))
      refine mw_seq (mw_ops ?_)
      refine po_g rfl (str_g (T := T) (hT := hT) [97]) ?_
      rintro x b' n4 l4 ⟨hb4, rfl, hn4, hl4⟩
      subst hb4; subst hn4; subst hl4
      refine po_g rfl (int_g (T := T) (hT := hT) 1) ?_
      rintro x b' n4 l4 ⟨hb4, rfl, hn4, hl4⟩
      subst hb4; subst hn4; subst hl4
      refine po_g rfl (str_g (T := T) (hT := hT) [97]) ?_
      rintro x b' n4 l4 ⟨hb4, rfl, hn4, hl4⟩
      subst hb4; subst hn4; subst hl4
      refine po_g rfl (int_g (T := T) (hT := hT) 2) ?_
      rintro x b' n4 l4 ⟨hb4, rfl, hn4, hl4⟩
      subst hb4; subst hn4; subst hl4
      refine po_lit (es := [vL 5 0 0 [97], vL 3 1 0 [], vL 5 0 0 [97], vL 3 2 0 []]) rfl ?_
      refine po_s (v := .ag (vcs 8 0 0 [] n4 [vL 5 0 0 [97], vL 3 1 0 [], vL 5 0 0 [97], vL 3 2 0 []])) rfl rfl rfl ?_
      refine po_stw (p := 1) (cs := vcs 8 0 0 [] n4 [vL 5 0 0 [97], vL 3 1 0 [], vL 5 0 0 [97], vL 3 2 0 []]) rfl rfl rfl rfl rfl rfl ?_
      repeat' (first | refine po_mv rfl (by conv => lhs; whnf) ?_ | refine po_s rfl rfl rfl ?_ | refine po_box rfl ?_ | refine po_zero ?_ | refine po_nil ?_)
      have hNl := NR.lit (es := [vL 5 0 0 [97], vL 3 1 0 [], vL 5 0 0 [97], vL 3 2 0 []]) hn (hN13.forget.plain rfl rfl)
      have hK : Kd 10 [vL 5 0 0 [97], vL 3 1 0 [], vL 5 0 0 [97], vL 3 2 0 []] [.mk 5 0 0 [97] [], .mk 3 1 0 [] [], .mk 5 0 0 [97] [], .mk 3 2 0 [] []] := by
        have one : ∀ (a m : Int) (z : List UInt8), i64ok a → i64ok m → z.length ≤ 1 → Kd 1 [vL a m 0 z] [.mk a m 0 z []] := fun a m z ha hm hz => Kd.one leaf_er (leaf_gd ha hm (i64ok_n (by omega)) hz (by decide))
        exact ((one 5 0 [97] (i64ok_n (by omega)) (i64ok_n (by omega)) (Nat.le_refl _)).app ((one 3 1 [] (i64ok_n (by omega)) (i64ok_n (by omega)) (Nat.zero_le _)).app ((one 5 0 [97] (i64ok_n (by omega)) (i64ok_n (by omega)) (Nat.le_refl _)).app (one 3 2 [] (i64ok_n (by omega)) (i64ok_n (by omega)) (Nat.zero_le _))))).mono (by decide)
      exact mw_ret ⟨.inr rfl, [.ag (vcs 8 0 0 [] n4 [vL 5 0 0 [97], vL 3 1 0 [], vL 5 0 0 [97], vL 3 2 0 []])], rfl, dvR_of hc3 (hNl.plain (by simpa [ownedL, vcs, PC.owned, pI, pS] using hNl.own) rfl) (row_er hK 8 0 0 []) (hK.gd (i64ok_n (by omega)) (i64ok_n (by omega)) (i64ok_n (by omega)) (fun _ => by decide) (by decide) (by decide) (by decide)) ⟨_, _, _, _, n4, _, rfl, .inr hn3⟩ (by show 4 ≤ 302; decide)⟩
    refine po_no rfl rfl (beq_eq_false_iff_ne.2 k3) ?_
    repeat' (first | refine po_mv rfl (by conv => lhs; whnf) ?_ | refine po_s rfl rfl rfl ?_ | refine po_box rfl ?_ | refine po_zero ?_ | refine po_nil ?_)
    refine mw_cond (t := false) rfl (fun h => absurd h (by decide)) (fun _ => ?_)
    refine mw_seq (mw_ops ?_)
    by_cases k4 : r = 4
    · refine po_yes rfl rfl (beq_iff_eq.2 k4) ?_
      repeat' (first | refine po_mv rfl (by conv => lhs; whnf) ?_ | refine po_s rfl rfl rfl ?_ | refine po_box rfl ?_ | refine po_zero ?_ | refine po_nil ?_)
      refine mw_cond (t := true) rfl (fun _ => ?_) (fun h => absurd h (by decide))
      refine mw_seq (mw_ops ?_)
      first | refine po_mv rfl (by conv => lhs; whnf) ?_ | refine po_s rfl rfl rfl ?_
      refine po_g rfl ((hBl 3).use ⟨trivial, trivial⟩ hc3 hn3 (p := 0) rfl) ?_
      rintro x bx n4 l4 ⟨c4, rfl, hc4, v, rfl, v0, v1, hN4⟩
      obtain ⟨v, rfl⟩ : ∃ k' : Nat, v = k' := ⟨v.toNat, by omega⟩
      refine po_add (n := ((11 + v : Nat) : Int)) rfl rfl rfl (by omega) (by omega) ?_
      repeat' (first | refine po_mv rfl (by conv => lhs; whnf) ?_ | refine po_s rfl rfl rfl ?_ | refine po_box rfl ?_ | refine po_zero ?_ | refine po_nil ?_)
      refine mw_seq (mw_ops ?_)
      repeat' (first | refine po_mv rfl (by conv => lhs; whnf) ?_ | refine po_s rfl rfl rfl ?_ | refine po_box rfl ?_ | refine po_zero ?_ | refine po_nil ?_)
      refine mw_block ?_
      refine mw_while (fun m st => ∃ (i t : Nat) (k n e : Int) (s : List UInt8) (rows : List (List PC)) (ks : List V), i ≤ 11 + v ∧ m = 11 + v - i ∧ has st.tm [(0, .ref 0 0), (2, .ref 1 0), (3, .ref 2 0), (4, .d (pI ((11 + v : Nat) : Int))), (5, .d (pI i))] ∧ st.bx = c4 :: zV :: vcs k n e s t rows :: [] ∧ NR nt live st.nt st.live (vcs k n e s t rows) ∧ (t = 1 ∧ rows = [] ∨ 2 ≤ t) ∧ erLL rows = vK ks ∧ Gd (1500 + i) (.mk k n e s ks) ∧ ks.length ≤ 302) (11 + v) ⟨0, t, k, n, e, s, rows, ks, Nat.zero_le _, rfl, ⟨rfl, rfl, rfl, rfl, rfl, trivial⟩, rfl, hN13.pass hN4, ht2, hrows, hg, by omega⟩ ?_
      rintro m tm bx n5 l5 ⟨i, t, k, n, e, s, rows, ks, hi, rfl, ht, hbx, hN5, ht2, hrows, hg, hk302⟩
      obtain ⟨tm1, rfl⟩ := has_ups ht
      simp only at hbx hN5; subst hbx
      clear ht
      refine mw_seq (mw_seq (mw_ops ?_))
      iterate 2 (first | refine po_mv rfl (by conv => lhs; whnf) ?_ | refine po_s rfl rfl rfl ?_)
      refine po_b rfl rfl (fun q hq => ?_)
      refine po_nil ?_
      refine mw_cd (p := (i : Int) < ((11 + v : Nat) : Int)) hq rfl (fun him _ => ?_) (fun him _ => ?_)
      rotate_left
      · refine mw_exit ?_
        exact ⟨c4, k, n, e, s, t, rows, ks, [], hc4, ⟨rfl, rfl, rfl, trivial⟩, rfl, hN5, ht2, hrows, hg.mono (by omega), hk302⟩
      refine mw_skip ?_
      refine mw_seq (mw_block (mw_ops ?_))
      refine po_ldw (p := 2) (cs := vcs k n e s t rows) rfl rfl rfl rfl ?_
      refine po_lit (es := [vcs k n e s t rows]) rfl ?_
      refine po_s (v := .ag (vcs 7 0 0 [] n5 [vcs k n e s t rows])) rfl rfl rfl ?_
      refine po_stw (p := 2) (cs := vcs 7 0 0 [] n5 [vcs k n e s t rows]) rfl rfl rfl rfl rfl rfl ?_
      refine po_nil ?_
      refine mw_ops ?_
      first | refine po_mv rfl (by conv => lhs; whnf) ?_ | refine po_s rfl rfl rfl ?_
      refine po_add (n := ((i + 1 : Nat) : Int)) rfl rfl rfl (by omega) (by omega) ?_
      repeat' (first | refine po_mv rfl (by conv => lhs; whnf) ?_ | refine po_s rfl rfl rfl ?_ | refine po_box rfl ?_ | refine po_zero ?_ | refine po_nil ?_)
      have hNl := NR.lit (es := [vcs k n e s t rows]) hn (by simpa using hN5)
      have hK : Kd (1500 + i) [vcs k n e s t rows] [.mk k n e s ks] := Kd.one (row_er (hg.kd hrows) k n e s) hg
      exact ⟨_, by show 11 + v - (i + 1) < 11 + v - i; omega, i + 1, n5, 7, 0, 0, [], [vcs k n e s t rows], [.mk k n e s ks], by omega, rfl, ⟨rfl, rfl, rfl, rfl, rfl, trivial⟩, rfl, hNl.plain (by simpa [ownedL, vcs, PC.owned, pI, pS] using hNl.own) rfl, .inr (by have := hN5.n2 hn; omega), hK.er, hK.gd (i64ok_n (by omega)) (i64ok_n (by omega)) (i64ok_n (by omega)) (fun h => by cases h) (by simp) (by simp) (by simp only [List.length_nil, List.length_singleton]; omega), by simp⟩
    refine po_no rfl rfl (beq_eq_false_iff_ne.2 k4) ?_
    repeat' (first | refine po_mv rfl (by conv => lhs; whnf) ?_ | refine po_s rfl rfl rfl ?_ | refine po_box rfl ?_ | refine po_zero ?_ | refine po_nil ?_)
    refine mw_cond (t := false) rfl (fun h => absurd h (by decide)) (fun _ => ?_)
    refine mw_seq (mw_ops ?_)
    by_cases k5 : r = 5
    · refine po_yes rfl rfl (beq_iff_eq.2 k5) ?_
      repeat' (first | refine po_mv rfl (by conv => lhs; whnf) ?_ | refine po_s rfl rfl rfl ?_ | refine po_box rfl ?_ | refine po_zero ?_ | refine po_nil ?_)
      refine mw_cond (t := true) rfl (fun _ => ?_) (fun h => absurd h (by decide))
      refine mw_seq (mw_ops ?_)
      first | refine po_mv rfl (by conv => lhs; whnf) ?_ | refine po_s rfl rfl rfl ?_
      refine po_g rfl ((hBl 3).use ⟨trivial, trivial⟩ hc3 hn3 (p := 0) rfl) ?_
      rintro x bx n4 l4 ⟨c4, rfl, hc4, v, rfl, v0, v1, hN4⟩
      obtain ⟨v, rfl⟩ : ∃ k' : Nat, v = k' := ⟨v.toNat, by omega⟩
      refine po_add (n := ((298 + v : Nat) : Int)) rfl rfl rfl (by omega) (by omega) ?_
      repeat' (first | refine po_mv rfl (by conv => lhs; whnf) ?_ | refine po_s rfl rfl rfl ?_ | refine po_box rfl ?_ | refine po_zero ?_ | refine po_nil ?_)
      refine mw_seq (mw_ops ?_)
      refine po_s (v := .ag (vRow 7 1 [])) rfl rfl rfl ?_
      refine po_stw (p := 2) (cs := vRow 7 1 []) rfl rfl rfl rfl rfl rfl ?_
      refine po_nil ?_
      refine mw_seq (mw_ops ?_)
      repeat' (first | refine po_mv rfl (by conv => lhs; whnf) ?_ | refine po_s rfl rfl rfl ?_ | refine po_box rfl ?_ | refine po_zero ?_ | refine po_nil ?_)
      refine mw_block ?_
      refine mw_while (fun m st => ∃ (i t : Nat) (rows : List (List PC)) (ks : List V), i ≤ 298 + v ∧ m = 298 + v - i ∧ has st.tm [(0, .ref 0 0), (2, .ref 1 0), (3, .ref 2 0), (6, .d (pI ((298 + v : Nat) : Int))), (7, .d (pI i))] ∧ st.bx = c4 :: zV :: vRow 7 t rows :: [] ∧ NR nt live st.nt st.live (vRow 7 t rows) ∧ (t = 1 ∧ rows = [] ∨ 2 ≤ t) ∧ Kd 0 rows ks ∧ ks.length = i) (298 + v) ⟨0, 1, [], [], Nat.zero_le _, rfl, ⟨rfl, rfl, rfl, rfl, rfl, trivial⟩, rfl, (hN13.pass hN4).forget.row0, .inl ⟨rfl, rfl⟩, Kd.nil, rfl⟩ ?_
      rintro m tm bx n5 l5 ⟨i, t, rows, ks, hi, rfl, ht, hbx, hN5, ht2, hK, hkl⟩
      obtain ⟨tm1, rfl⟩ := has_ups ht
      simp only at hbx hN5; subst hbx
      clear ht
      refine mw_seq (mw_seq (mw_ops ?_))
      iterate 2 (first | refine po_mv rfl (by conv => lhs; whnf) ?_ | refine po_s rfl rfl rfl ?_)
      refine po_b rfl rfl (fun q hq => ?_)
      refine po_nil ?_
      refine mw_cd (p := (i : Int) < ((298 + v : Nat) : Int)) hq rfl (fun him _ => ?_) (fun him _ => ?_)
      rotate_left
      · refine mw_exit ?_
        exact ⟨c4, 7, 0, 0, [], t, rows, ks, [], hc4, ⟨rfl, rfl, rfl, trivial⟩, rfl, hN5, ht2, hK.er, hK.gd (i64ok_n (by omega)) (i64ok_n (by omega)) (i64ok_n (by omega)) (fun h => by cases h) (by omega) (by simp) (by simp only [List.length_nil]; omega), by omega⟩
      refine mw_skip ?_
      refine mw_seq (mw_block (mw_ops ?_))
      first | refine po_mv rfl (by conv => lhs; whnf) ?_ | refine po_s rfl rfl rfl ?_
      refine po_ldx (cs := vRow 7 t rows) (v := .d (.sl t rows)) rfl rfl rfl (by show 4 + 1 ≤ 5; decide) rfl ?_
      refine po_s (v := .ag (vL 0 0 0 [])) rfl rfl rfl ?_
      refine po_lit (es := [vL 0 0 0 []]) rfl ?_
      refine po_app (t := t) (t' := n5) (es := rows) (ds := [vL 0 0 0 []]) rfl rfl ((NR.rowt ht2 hN5).imp id fun h => List.mem_cons_of_mem _ h) (by rw [hK.len]; simp only [List.length_cons, List.length_nil]; omega) (fun e he => by simp only [List.mem_singleton] at he; subst he; rfl) hK.wid ?_
      first | refine po_mv rfl (by conv => lhs; whnf) ?_ | refine po_s rfl rfl rfl ?_
      refine po_store (p := 2) (o' := 4) (cs := [.sl (n5 + 1) (rows ++ [vL 0 0 0 []])]) (z := vRow 7 t rows) rfl rfl rfl ⟨rfl, by show 4 + 1 ≤ 5; decide⟩ rfl ?_
      refine po_nil ?_
      refine mw_ops ?_
      first | refine po_mv rfl (by conv => lhs; whnf) ?_ | refine po_s rfl rfl rfl ?_
      refine po_add (n := ((i + 1 : Nat) : Int)) rfl rfl rfl (by omega) (by omega) ?_
      repeat' (first | refine po_mv rfl (by conv => lhs; whnf) ?_ | refine po_s rfl rfl rfl ?_ | refine po_box rfl ?_ | refine po_zero ?_ | refine po_nil ?_)
      exact ⟨_, by show 298 + v - (i + 1) < 298 + v - i; omega, i + 1, n5 + 1, rows ++ [vL 0 0 0 []], ks ++ [.mk 0 0 0 [] []], by omega, rfl, ⟨rfl, rfl, rfl, rfl, rfl, trivial⟩, rfl, NR.kids hn ht2 hN5 (ds := [vL 0 0 0 []]) ((NR.refl n5 l5).up.plain rfl rfl), .inr (by have := hN5.n2 hn; omega), (hK.app (Kd.one (cs := vL 0 0 0 []) (v := .mk 0 0 0 [] []) leaf_er (leaf_gd (B := 0) (k := 0) (n := 0) (e := 0) (s := []) (i64ok_n (by omega)) (i64ok_n (by omega)) (i64ok_n (by omega)) (Nat.le_refl 0) (by decide)))).mono (Nat.le_refl _), by rw [List.length_append, List.length_singleton]; omega⟩
    refine po_no rfl rfl (beq_eq_false_iff_ne.2 k5) ?_
    repeat' (first | refine po_mv rfl (by conv => lhs; whnf) ?_ | refine po_s rfl rfl rfl ?_ | refine po_box rfl ?_ | refine po_zero ?_ | refine po_nil ?_)
    refine mw_cond (t := false) rfl (fun h => absurd h (by decide)) (fun _ => ?_)
    refine mw_skip ?_
    exact keep c3 hc3 _ ⟨rfl, rfl, rfl, trivial⟩ rfl hN13
  rintro tm bx n3 l3 ⟨c3, k, n, e, s, t, rows, ks, rest, hc3, ht, hbx, hN3, ht2, hrows, hg, hk⟩
  obtain ⟨tm1, rfl⟩ := has_ups ht
  simp only at hbx hN3; subst hbx
  clear ht
  refine mw_seq (mw_ops ?_)
  refine po_ldw (p := 2) (cs := vcs k n e s t rows) rfl rfl rfl rfl ?_
  refine po_stw (p := 1) (cs := vcs k n e s t rows) rfl rfl rfl rfl rfl rfl ?_
  repeat' (first | refine po_mv rfl (by conv => lhs; whnf) ?_ | refine po_s rfl rfl rfl ?_ | refine po_box rfl ?_ | refine po_zero ?_ | refine po_nil ?_)
  exact mw_ret ⟨.inr rfl, [.ag (vcs k n e s t rows)], rfl, dvR_of hc3 hN3 (row_er (hg.kd hrows) k n e s) hg ⟨_, _, _, _, t, rows, rfl, ht2⟩ hk⟩
end Go.Proofs.YthngfihpnfoppaaDoor

namespace Go.Proofs.YthngfihpnfoppaaDoor
set_option maxRecDepth 100000
def m_l_FnPlain : M := .seq (.ops [⟨some 2, .mv (.c (.bool false)), none, []⟩])
 (.seq (.seq (.ops [⟨some 5, .mv (.t 0), none, []⟩,
  ⟨some 6, .call 4 [.t 5], none, [.f 1]⟩])
 (.cond (.t 6) (.seq (.ops [⟨some 2, .mv (.c (.bool true)), none, []⟩])
 (.ret))
 (.skip)))
 (.seq (.ops [⟨some 7, .mv (.t 0), none, []⟩,
  ⟨some 8, .call 5 [.t 7], none, [.f 1]⟩,
  ⟨some 3, .zero [.int .i64 0, .int .i64 0, .int .i64 0, .string ⟨[].toArray⟩, .slice none 0 0], none, []⟩,
  ⟨none, .store 5 (.t 3) (.t 8), none, []⟩])
 (.seq (.ops [⟨some 9, .load true 5 (.t 3), none, []⟩,
  ⟨some 10, .call 6 [.t 9], none, [.f 1]⟩,
  ⟨some 4, .zero [.int .i64 0, .int .i64 0, .int .i64 0, .string ⟨[].toArray⟩, .slice none 0 0], none, []⟩,
  ⟨none, .store 5 (.t 4) (.t 10), none, []⟩])
 (.seq (.seq (.ops [⟨some 11, .load true 5 (.t 4), none, []⟩,
  ⟨some 12, .load true 5 (.t 3), none, []⟩,
  ⟨some 13, .call 8 [.t 12], none, [.f 0, .t 4]⟩,
  ⟨some 14, .call 7 [.t 11, .t 13], none, [.f 0]⟩,
  ⟨some 15, .not (.t 14), none, []⟩])
 (.cond (.t 15) (.seq (.ops [⟨some 2, .mv (.c (.bool false)), none, []⟩])
 (.ret))
 (.skip)))
 (.seq (.seq (.ops [⟨some 16, .load true 5 (.t 3), none, []⟩,
  ⟨some 17, .call 9 [.t 16], none, [.f 1]⟩,
  ⟨some 18, .mv (.t 17), none, []⟩,
  ⟨some 19, .load true 5 (.t 4), some (18, true), []⟩,
  ⟨some 20, .load true 5 (.t 3), some (18, true), []⟩,
  ⟨some 21, .call 7 [.t 19, .t 20], some (18, true), [.f 1]⟩,
  ⟨some 22, .not (.t 21), some (18, true), []⟩,
  ⟨some 23, .pick (.t 18) (.t 22) (.c (.bool false)), none, []⟩,
  ⟨some 24, .mv (.t 23), none, []⟩,
  ⟨some 25, .load true 5 (.t 3), some (24, false), []⟩,
  ⟨some 26, .call 10 [.t 25], some (24, false), [.f 1]⟩,
  ⟨some 27, .not (.t 26), some (24, false), []⟩,
  ⟨some 28, .mv (.t 27), some (24, false), []⟩,
  ⟨some 29, .load true 5 (.t 4), some (28, true), []⟩,
  ⟨some 30, .load true 5 (.t 3), some (28, true), []⟩,
  ⟨some 31, .call 7 [.t 29, .t 30], some (28, true), [.f 1]⟩,
  ⟨some 32, .not (.t 31), some (28, true), []⟩,
  ⟨some 33, .pick (.t 28) (.t 32) (.c (.bool false)), some (24, false), []⟩,
  ⟨some 34, .pick (.t 24) (.c (.bool true)) (.t 33), none, []⟩])
 (.cond (.t 34) (.seq (.ops [⟨some 2, .mv (.c (.bool false)), none, []⟩])
 (.ret))
 (.skip)))
 (.seq (.ops [⟨some 35, .load true 5 (.t 3), none, []⟩,
  ⟨some 36, .call 10 [.t 35], none, [.f 1]⟩,
  ⟨some 37, .not (.t 36), none, []⟩,
  ⟨some 38, .mv (.t 37), none, []⟩,
  ⟨some 39, .load true 5 (.t 4), some (38, false), []⟩,
  ⟨some 40, .call 9 [.t 39], some (38, false), [.f 1]⟩,
  ⟨some 41, .pick (.t 38) (.c (.bool true)) (.t 40), none, []⟩,
  ⟨some 42, .mv (.t 41), none, []⟩,
  ⟨some 43, .load true 5 (.t 4), some (42, false), []⟩,
  ⟨some 44, .load true 5 (.t 3), some (42, false), []⟩,
  ⟨some 45, .call 7 [.t 43, .t 44], some (42, false), [.f 1]⟩,
  ⟨some 46, .pick (.t 42) (.c (.bool true)) (.t 45), none, []⟩,
  ⟨some 2, .mv (.t 46), none, []⟩])
 (.ret)))))))
theorem lk_l_FnPlain : look Tryd.prog 3 = some (47, m_l_FnPlain, [.tm 2]) := by kernel_rfl
def m_l_big : M := .seq (.ops [⟨some 2, .mv (.c (.bool false)), none, []⟩])
 (.seq (.ops [⟨some 3, .mv (.t 0), none, []⟩,
  ⟨some 4, .len (.t 3), none, []⟩,
  ⟨some 5, .bin .gtr false (.t 4) (.c (.int .i64 1048576)), none, []⟩,
  ⟨some 2, .mv (.t 5), none, []⟩])
 (.ret))
theorem lk_l_big : look Tryd.prog 4 = some (6, m_l_big, [.tm 2]) := by kernel_rfl
def m_s_DrawPlain : M := .seq (.ops [⟨some 2, .zero [.int .i64 0, .int .i64 0, .int .i64 0, .string ⟨[].toArray⟩, .slice none 0 0], none, []⟩])
 (.seq (.ops [⟨some 3, .mv (.t 0), none, []⟩,
  ⟨some 4, .call 12 [.t 3], none, [.f 1]⟩,
  ⟨some 5, .call 11 [.t 4], none, [.f 1]⟩,
  ⟨none, .store 5 (.t 2) (.t 5), none, []⟩])
 (.ret))
theorem lk_s_DrawPlain : look Tryd.prog 5 = some (6, m_s_DrawPlain, [.cell true 5 2]) := by kernel_rfl
def m_l_same : M := .seq (.ops [⟨some 2, .box (.t 0), none, []⟩,
  ⟨some 3, .box (.t 1), none, []⟩,
  ⟨some 4, .mv (.c (.bool false)), none, []⟩])
 (.seq (.seq (.ops [⟨some 6, .fld 0 (.t 2), none, []⟩,
  ⟨some 7, .load false 1 (.t 6), none, []⟩,
  ⟨some 8, .fld 0 (.t 3), none, []⟩,
  ⟨some 9, .load false 1 (.t 8), none, []⟩,
  ⟨some 10, .bin .neq false (.t 7) (.t 9), none, []⟩,
  ⟨some 11, .mv (.t 10), none, []⟩,
  ⟨some 12, .fld 1 (.t 2), some (11, false), []⟩,
  ⟨some 13, .load false 1 (.t 12), some (11, false), []⟩,
  ⟨some 14, .fld 1 (.t 3), some (11, false), []⟩,
  ⟨some 15, .load false 1 (.t 14), some (11, false), []⟩,
  ⟨some 16, .bin .neq false (.t 13) (.t 15), some (11, false), []⟩,
  ⟨some 17, .pick (.t 11) (.c (.bool true)) (.t 16), none, []⟩,
  ⟨some 18, .mv (.t 17), none, []⟩,
  ⟨some 19, .fld 2 (.t 2), some (18, false), []⟩,
  ⟨some 20, .load false 1 (.t 19), some (18, false), []⟩,
  ⟨some 21, .fld 2 (.t 3), some (18, false), []⟩,
  ⟨some 22, .load false 1 (.t 21), some (18, false), []⟩,
  ⟨some 23, .bin .neq false (.t 20) (.t 22), some (18, false), []⟩,
  ⟨some 24, .pick (.t 18) (.c (.bool true)) (.t 23), none, []⟩,
  ⟨some 25, .mv (.t 24), none, []⟩,
  ⟨some 26, .fld 3 (.t 2), some (25, false), []⟩,
  ⟨some 27, .load false 1 (.t 26), some (25, false), []⟩,
  ⟨some 28, .fld 3 (.t 3), some (25, false), []⟩,
  ⟨some 29, .load false 1 (.t 28), some (25, false), []⟩,
  ⟨some 30, .bin .neq false (.t 27) (.t 29), some (25, false), []⟩,
  ⟨some 31, .pick (.t 25) (.c (.bool true)) (.t 30), none, []⟩,
  ⟨some 32, .mv (.t 31), none, []⟩,
  ⟨some 33, .fld 4 (.t 2), some (32, false), []⟩,
  ⟨some 34, .load false 1 (.t 33), some (32, false), []⟩,
  ⟨some 35, .len (.t 34), some (32, false), []⟩,
  ⟨some 36, .fld 4 (.t 3), some (32, false), []⟩,
  ⟨some 37, .load false 1 (.t 36), some (32, false), []⟩,
  ⟨some 38, .len (.t 37), some (32, false), []⟩,
  ⟨some 39, .bin .neq false (.t 35) (.t 38), some (32, false), []⟩,
  ⟨some 40, .pick (.t 32) (.c (.bool true)) (.t 39), none, []⟩])
 (.cond (.t 40) (.seq (.ops [⟨some 4, .mv (.c (.bool false)), none, []⟩])
 (.ret))
 (.skip)))
 (.seq (.seq (.ops [⟨some 5, .mv (.c (.int .i64 0)), none, []⟩])
 (.block 0 (.loop (.seq (.seq (.ops [⟨some 41, .mv (.t 5), none, []⟩,
  ⟨some 42, .fld 4 (.t 2), none, []⟩,
  ⟨some 43, .load false 1 (.t 42), none, []⟩,
  ⟨some 44, .len (.t 43), none, []⟩,
  ⟨some 45, .bin .lss false (.t 41) (.t 44), none, []⟩])
 (.cond (.t 45) (.skip)
 (.exit 0)))
 (.seq (.block 1 (.seq (.ops [⟨some 48, .fld 4 (.t 2), none, []⟩,
  ⟨some 49, .load false 1 (.t 48), none, []⟩,
  ⟨some 50, .mv (.t 5), none, []⟩,
  ⟨some 51, .ix 5 (.t 49) (.t 50), none, []⟩,
  ⟨some 52, .load true 5 (.t 51), none, []⟩,
  ⟨some 53, .fld 4 (.t 3), none, []⟩,
  ⟨some 54, .load false 1 (.t 53), none, []⟩,
  ⟨some 55, .mv (.t 5), none, []⟩,
  ⟨some 56, .ix 5 (.t 54) (.t 55), none, []⟩,
  ⟨some 57, .load true 5 (.t 56), none, []⟩,
  ⟨some 58, .call 7 [.t 52, .t 57], none, [.f 0]⟩,
  ⟨some 59, .not (.t 58), none, []⟩])
 (.cond (.t 59) (.seq (.ops [⟨some 4, .mv (.c (.bool false)), none, []⟩])
 (.ret))
 (.skip))))
 (.ops [⟨some 46, .mv (.t 5), none, []⟩,
  ⟨some 47, .bin .add false (.t 46) (.c (.int .i64 1)), none, []⟩,
  ⟨some 5, .mv (.t 47), none, []⟩]))))))
 (.seq (.ops [⟨some 4, .mv (.c (.bool true)), none, []⟩])
 (.ret))))
theorem lk_l_same : look Tryd.prog 7 = some (60, m_l_same, [.tm 4]) := by kernel_rfl
def m_s_JsonFits : M := .seq (.ops [⟨some 1, .box (.t 0), none, []⟩,
  ⟨some 2, .mv (.c (.bool false)), none, []⟩])
 (.seq (.ops [⟨some 3, .load true 5 (.t 1), none, []⟩,
  ⟨some 4, .call 10 [.t 3], none, [.f 1]⟩,
  ⟨some 5, .mv (.t 4), none, []⟩,
  ⟨some 6, .load true 5 (.t 1), some (5, true), []⟩,
  ⟨some 7, .call 18 [.t 6, .c (.int .i64 6)], some (5, true), [.f 1]⟩,
  ⟨some 8, .bin .eql false (.t 7) (.c (.int .i64 0)), some (5, true), []⟩,
  ⟨some 9, .pick (.t 5) (.t 8) (.c (.bool false)), none, []⟩,
  ⟨some 10, .mv (.t 9), none, []⟩,
  ⟨some 11, .load true 5 (.t 1), some (10, true), []⟩,
  ⟨some 12, .call 18 [.t 11, .c (.int .i64 9)], some (10, true), [.f 1]⟩,
  ⟨some 13, .bin .eql false (.t 12) (.c (.int .i64 0)), some (10, true), []⟩,
  ⟨some 14, .pick (.t 10) (.t 13) (.c (.bool false)), none, []⟩,
  ⟨some 15, .mv (.t 14), none, []⟩,
  ⟨some 16, .load true 5 (.t 1), some (15, true), []⟩,
  ⟨some 17, .call 19 [.t 16], some (15, true), [.f 1]⟩,
  ⟨some 18, .pick (.t 15) (.t 17) (.c (.bool false)), none, []⟩,
  ⟨some 2, .mv (.t 18), none, []⟩])
 (.ret))
theorem lk_s_JsonFits : look Tryd.prog 9 = some (19, m_s_JsonFits, [.tm 2]) := by kernel_rfl
def m_s_Count : M := .seq (.ops [⟨some 2, .box (.t 0), none, []⟩,
  ⟨some 4, .mv (.c (.int .i64 0)), none, []⟩])
 (.seq (.ops [⟨some 5, .mv (.c (.int .i64 0)), none, []⟩])
 (.seq (.seq (.ops [⟨some 7, .fld 0 (.t 2), none, []⟩,
  ⟨some 8, .load false 1 (.t 7), none, []⟩,
  ⟨some 9, .mv (.t 1), none, []⟩,
  ⟨some 10, .bin .eql false (.t 8) (.t 9), none, []⟩])
 (.cond (.t 10) (.ops [⟨some 5, .mv (.c (.int .i64 1)), none, []⟩])
 (.skip)))
 (.seq (.seq (.ops [⟨some 6, .mv (.c (.int .i64 0)), none, []⟩])
 (.block 0 (.loop (.seq (.seq (.ops [⟨some 11, .mv (.t 6), none, []⟩,
  ⟨some 12, .fld 4 (.t 2), none, []⟩,
  ⟨some 13, .load false 1 (.t 12), none, []⟩,
  ⟨some 14, .len (.t 13), none, []⟩,
  ⟨some 15, .bin .lss false (.t 11) (.t 14), none, []⟩])
 (.cond (.t 15) (.skip)
 (.exit 0)))
 (.seq (.block 1 (.ops [⟨some 18, .mv (.t 5), none, []⟩,
  ⟨some 19, .fld 4 (.t 2), none, []⟩,
  ⟨some 20, .load false 1 (.t 19), none, []⟩,
  ⟨some 21, .mv (.t 6), none, []⟩,
  ⟨some 22, .ix 5 (.t 20) (.t 21), none, []⟩,
  ⟨some 23, .load true 5 (.t 22), none, []⟩,
  ⟨some 24, .mv (.t 1), none, []⟩,
  ⟨some 25, .call 18 [.t 23, .t 24], none, [.f 1]⟩,
  ⟨some 26, .bin .add false (.t 18) (.t 25), none, []⟩,
  ⟨some 5, .mv (.t 26), none, []⟩]))
 (.ops [⟨some 16, .mv (.t 6), none, []⟩,
  ⟨some 17, .bin .add false (.t 16) (.c (.int .i64 1)), none, []⟩,
  ⟨some 6, .mv (.t 17), none, []⟩]))))))
 (.seq (.ops [⟨some 27, .mv (.t 5), none, []⟩,
  ⟨some 4, .mv (.t 27), none, []⟩])
 (.ret)))))
theorem lk_s_Count : look Tryd.prog 18 = some (28, m_s_Count, [.tm 4]) := by kernel_rfl
def m_s_l04Text : M := .seq (.ops [⟨some 1, .box (.t 0), none, []⟩,
  ⟨some 2, .mv (.c (.bool false)), none, []⟩])
 (.seq (.seq (.ops [⟨some 3, .mv (.c (.int .i64 0)), none, []⟩])
 (.block 0 (.loop (.seq (.seq (.ops [⟨some 4, .mv (.t 3), none, []⟩,
  ⟨some 5, .fld 4 (.t 1), none, []⟩,
  ⟨some 6, .load false 1 (.t 5), none, []⟩,
  ⟨some 7, .len (.t 6), none, []⟩,
  ⟨some 8, .bin .lss false (.t 4) (.t 7), none, []⟩])
 (.cond (.t 8) (.skip)
 (.exit 0)))
 (.seq (.block 1 (.seq (.ops [⟨some 11, .fld 0 (.t 1), none, []⟩,
  ⟨some 12, .load false 1 (.t 11), none, []⟩,
  ⟨some 13, .bin .eql false (.t 12) (.c (.int .i64 8)), none, []⟩,
  ⟨some 14, .mv (.t 13), none, []⟩,
  ⟨some 15, .mv (.t 3), some (14, true), []⟩,
  ⟨some 16, .bin .rem false (.t 15) (.c (.int .i64 2)), some (14, true), []⟩,
  ⟨some 17, .bin .eql false (.t 16) (.c (.int .i64 0)), some (14, true), []⟩,
  ⟨some 18, .pick (.t 14) (.t 17) (.c (.bool false)), none, []⟩,
  ⟨some 19, .mv (.t 18), none, []⟩,
  ⟨some 20, .fld 4 (.t 1), some (19, true), []⟩,
  ⟨some 21, .load false 1 (.t 20), some (19, true), []⟩,
  ⟨some 22, .mv (.t 3), some (19, true), []⟩,
  ⟨some 23, .ix 5 (.t 21) (.t 22), some (19, true), []⟩,
  ⟨some 24, .fld 0 (.t 23), some (19, true), []⟩,
  ⟨some 25, .load false 1 (.t 24), some (19, true), []⟩,
  ⟨some 26, .bin .neq false (.t 25) (.c (.int .i64 5)), some (19, true), []⟩,
  ⟨some 27, .pick (.t 19) (.t 26) (.c (.bool false)), none, []⟩,
  ⟨some 28, .mv (.t 27), none, []⟩,
  ⟨some 29, .fld 4 (.t 1), some (28, false), []⟩,
  ⟨some 30, .load false 1 (.t 29), some (28, false), []⟩,
  ⟨some 31, .mv (.t 3), some (28, false), []⟩,
  ⟨some 32, .ix 5 (.t 30) (.t 31), some (28, false), []⟩,
  ⟨some 33, .load true 5 (.t 32), some (28, false), []⟩,
  ⟨some 34, .call 19 [.t 33], some (28, false), [.f 1]⟩,
  ⟨some 35, .not (.t 34), some (28, false), []⟩,
  ⟨some 36, .pick (.t 28) (.c (.bool true)) (.t 35), none, []⟩])
 (.cond (.t 36) (.seq (.ops [⟨some 2, .mv (.c (.bool false)), none, []⟩])
 (.ret))
 (.skip))))
 (.ops [⟨some 9, .mv (.t 3), none, []⟩,
  ⟨some 10, .bin .add false (.t 9) (.c (.int .i64 1)), none, []⟩,
  ⟨some 3, .mv (.t 10), none, []⟩]))))))
 (.seq (.ops [⟨some 2, .mv (.c (.bool true)), none, []⟩])
 (.ret)))
theorem lk_s_l04Text : look Tryd.prog 19 = some (37, m_s_l04Text, [.tm 2]) := by kernel_rfl
end Go.Proofs.YthngfihpnfoppaaDoor

namespace Go.Proofs.YthngfihpnfoppaaDoor
open Go.RowKit

def hexTab : List UInt8 := [48, 49, 50, 51, 52, 53, 54, 55, 56, 57, 97, 98, 99, 100, 101, 102]
def hexd (k : Nat) : UInt8 := hexTab.getD k 0
def hexL : List UInt8 → List UInt8
  | [] => []
  | b :: l => hexd (b.toNat / 16) :: hexd (b.toNat % 16) :: hexL l
theorem hexL_length : ∀ l, (hexL l).length = 2 * l.length
  | [] => rfl
  | b :: l => by simp only [hexL, List.length_cons, hexL_length l]; omega
theorem hexL_append : ∀ a b : List UInt8, hexL (a ++ b) = hexL a ++ hexL b
  | [], b => rfl
  | x :: a, b => by simp only [List.cons_append, hexL, hexL_append a b]
theorem hexL_take (l : List UInt8) (j : Nat) (h : j < l.length) : hexL (l.take (j + 1)) = hexL (l.take j) ++ [hexd (l[j].toNat / 16), hexd (l[j].toNat % 16)] := by
  rw [List.take_succ_eq_append_getElem h, hexL_append]; rfl
/-- the place of the first pair of this key -/
def mfind : List V → List UInt8 → Nat → Int
  | x :: _ :: r, s, i => if x.kind = 5 ∧ x.text = s then (i : Nat) else mfind r s (i + 2)
  | _, _, _ => -1
def keyV (x : V) : V := if x.kind = 3 then .mk 5 0 0 (Lib.itoa x.num) [] else x
def putV (acc : List V) (x y : V) : List V := if mfind acc (keyV x).text 0 < 0 then acc ++ [keyV x, y] else acc
mutual
def V.plain : V → V
  | .mk k n e s kids => if k = 6 then .mk 5 0 0 (hexL s) [] else if k = 9 then V.plainHd (.mk k n e s kids) kids else if k = 7 then .mk 7 0 0 [] (V.plains kids) else if k = 8 then .mk 8 0 0 [] (V.plainM [] kids) else .mk k n e s kids
def V.plainHd (d : V) : List V → V
  | [] => d
  | v :: _ => V.plain v
def V.plains : List V → List V
  | [] => []
  | v :: vs => V.plain v :: V.plains vs
def V.plainM (acc : List V) : List V → List V
  | [] => acc
  | [_] => acc
  | x :: y :: r => V.plainM (putV acc x (V.plain y)) r
end
end Go.Proofs.YthngfihpnfoppaaDoor

/- What JSON holds of a right value: sizes and steps. No program in sight. -/
namespace Go.Proofs.YthngfihpnfoppaaDoor
open Go.RowKit
open Go.Lib (validD)

/-- what is known of a right value, by its kind -/
theorem V.right_at {d k n e : Int} {s : List UInt8} {kids : List V} (h : V.rightBy pairsOk d (.mk k n e s kids) = true) :
    (∀ y ∈ kids, V.rightBy pairsOk (d - 1) y = true) ∧ V.self (.mk k n e s kids) = true := by
  simp only [V.rightBy, Bool.and_eq_true] at h
  refine ⟨fun y hy => ?_, h.2.2⟩
  have := h.1
  rw [V.rightsBy_all, List.all_eq_true] at this
  exact this y hy
theorem V.self_leaf {k n e : Int} {s : List UInt8} {kids : List V} (h : V.self (.mk k n e s kids) = true) (h7 : k ≠ 7) (h8 : k ≠ 8) (h9 : k ≠ 9) : kids = [] := by
  simp only [V.self, V.selfBy] at h
  by_cases h0 : k = 0 ∨ k = 1 ∨ k = 2
  · rw [if_pos h0] at h; simp only [Bool.and_eq_true, decide_eq_true_eq] at h; exact h.2.2.2
  rw [if_neg h0] at h
  by_cases h3 : k = 3
  · rw [if_pos h3] at h; simp only [Bool.and_eq_true, decide_eq_true_eq] at h; exact h.2.2
  rw [if_neg h3] at h
  by_cases h4 : k = 4
  · rw [if_pos h4] at h; simp only [Bool.and_eq_true, decide_eq_true_eq] at h; exact h.2.2
  rw [if_neg h4] at h
  by_cases h5 : k = 5
  · rw [if_pos h5] at h; simp only [Bool.and_eq_true, decide_eq_true_eq] at h; exact h.2.2.2.2
  rw [if_neg h5] at h
  by_cases h6 : k = 6
  · rw [if_pos h6] at h; simp only [Bool.and_eq_true, decide_eq_true_eq] at h; exact h.2.2.2
  rw [if_neg h6, if_neg h7, if_neg h8, if_neg h9] at h; cases h
theorem V.self_nine {n e : Int} {s : List UInt8} {kids : List V} (h : V.self (.mk 9 n e s kids) = true) : kids.length = 1 := by
  simp only [V.self, V.selfBy] at h; simp at h; exact h.2.2.2
theorem V.self_seven {n e : Int} {s : List UInt8} {kids : List V} (h : V.self (.mk 7 n e s kids) = true) : n = 0 ∧ e = 0 ∧ s = [] := by
  simp only [V.self, V.selfBy] at h; simp at h; exact h
theorem V.self_eight {n e : Int} {s : List UInt8} {kids : List V} (h : V.self (.mk 8 n e s kids) = true) : n = 0 ∧ e = 0 ∧ s = [] ∧ kids.length % 2 = 0 ∧ ∀ j (h : 2 * j < kids.length), isKeyK kids[2 * j].kind = true := by
  simp only [V.self, V.selfBy] at h; simp at h
  obtain ⟨h1, h2, h3, h4⟩ := h
  unfold pairsOk uniq at h4
  simp only [Bool.and_eq_true, decide_eq_true_eq, List.all_eq_true] at h4
  refine ⟨h1, h2, h3, h4.2.1, fun j hj => ?_⟩
  have := h4.1.1 ((odds kids)[j]'(by rw [odds_length]; omega)) (List.getElem_mem _)
  rw [odds_get kids j hj] at this; exact this
/-- a key of a right map is a plain one -/
theorem V.key_form {d : Int} {x : V} (h : V.rightBy pairsOk d x = true) (hk : isKeyK x.kind = true) : (x.kind = 3 ∧ ∃ n, x = .mk 3 n 0 [] []) ∨ (∃ s, x = .mk 5 0 0 s []) := by
  obtain ⟨k, n, e, s, kids⟩ := x
  simp only [V.rightBy, Bool.and_eq_true, V.selfBy] at h
  simp only [V.kind, isKeyK, Bool.or_eq_true] at hk
  rcases hk with hk | hk <;> obtain rfl := of_decide_eq_true hk
  · have := h.2.2; simp at this; right; exact ⟨s, by simp [this]⟩
  · have := h.2.2; simp at this; left; exact ⟨rfl, n, by simp [this]⟩
theorem V.plainM_step (acc kids : List V) (j : Nat) (h : 2 * j + 1 < kids.length) : V.plainM acc (kids.drop (2 * j)) = V.plainM (putV acc kids[2 * j] (V.plain kids[2 * j + 1])) (kids.drop (2 * (j + 1))) := by
  rw [List.drop_eq_getElem_cons (show 2 * j < kids.length by omega), List.drop_eq_getElem_cons (show 2 * j + 1 < kids.length from h), V.plainM, show 2 * (j + 1) = 2 * j + 1 + 1 by omega]
theorem V.plainM_end (acc kids : List V) (j : Nat) (h : ¬ 2 * j + 1 < kids.length) : V.plainM acc (kids.drop (2 * j)) = acc := by
  have hl : (kids.drop (2 * j)).length ≤ 1 := by rw [List.length_drop]; omega
  match kids.drop (2 * j), hl with
  | [], _ => rfl
  | [_], _ => rfl
theorem putV_length (acc : List V) (x y : V) : (putV acc x y).length ≤ acc.length + 2 := by unfold putV; split <;> simp
theorem V.plains_length : ∀ xs : List V, (V.plains xs).length = xs.length
  | [] => rfl
  | x :: xs => by simp [V.plains, V.plains_length xs]
theorem V.plains_append : ∀ (xs : List V) (y : V), V.plains (xs ++ [y]) = V.plains xs ++ [V.plain y]
  | [], y => rfl
  | x :: xs, y => by simp [V.plains, V.plains_append xs y]
theorem V.plains_take (xs : List V) (j : Nat) (h : j < xs.length) : V.plains (xs.take (j + 1)) = V.plains (xs.take j) ++ [V.plain xs[j]] := by
  rw [List.take_succ_eq_append_getElem h, V.plains_append]
theorem V.bulks_append : ∀ xs ys : List V, V.bulks (xs ++ ys) = V.bulks xs + V.bulks ys
  | [], ys => by simp [V.bulks]
  | x :: xs, ys => by simp only [List.cons_append, V.bulks, V.bulks_append xs ys]; omega
theorem V.wfs_append : ∀ {xs ys : List V}, V.wfs xs → V.wfs ys → V.wfs (xs ++ ys)
  | [], _ys, _, h => h
  | _x :: _xs, _ys, h, k => ⟨h.1, V.wfs_append h.2 k⟩
theorem V.nodess_append : ∀ xs ys : List V, V.nodess (xs ++ ys) = V.nodess xs + V.nodess ys
  | [], ys => by simp [V.nodess]
  | x :: xs, ys => by simp only [List.cons_append, V.nodess, V.nodess_append xs ys]; omega
theorem keyV_bulk (x : V) (h : x.wf) : (keyV x).bulk ≤ x.bulk + 21 := by
  unfold keyV; split
  · obtain ⟨k, n, e, s, kids⟩ := x
    have := Lib.itoa_length_le n h.2.1.1 h.2.1.2
    simp only [V.bulk, V.num, List.length_nil, V.bulks]; omega
  · omega
theorem keyV_nodes (x : V) : (keyV x).nodes ≤ x.nodes := by
  unfold keyV; split
  · have := x.nodes_pos; simp only [V.nodes, V.nodess]; omega
  · omega
mutual
theorem V.plain_size : ∀ x : V, x.wf → (V.plain x).bulk ≤ 2 * x.bulk + 21 * x.nodes ∧ (V.plain x).nodes ≤ x.nodes
  | .mk k n e s kids, hw => by
    have hk := hw.2.2.2.2.2
    by_cases h6 : k = 6
    · simp only [V.plain, if_pos h6, V.bulk, V.nodes, hexL_length, List.length_nil, V.bulks, V.nodess]; omega
    by_cases h9 : k = 9
    · simp only [V.plain, if_neg h6, if_pos h9]
      match kids, hk with
      | [], hk => simp only [V.plainHd]; omega
      | y :: r, hk => have := V.plain_size y hk.1; simp only [V.plainHd, V.bulk, V.nodes, V.bulks, V.nodess, List.length_cons]; omega
    by_cases h7 : k = 7
    · have := V.plains_size kids hk
      simp only [V.plain, if_neg h6, if_neg h9, if_pos h7, V.bulk, V.nodes, V.plains_length, List.length_nil]; omega
    by_cases h8 : k = 8
    · have := V.plainM_size [] kids hk
      simp only [V.plain, if_neg h6, if_neg h9, if_neg h7, if_pos h8, V.bulk, V.nodes, List.length_nil, V.bulks, V.nodess] at this ⊢; omega
    · simp only [V.plain, if_neg h6, if_neg h9, if_neg h7, if_neg h8]; omega
theorem V.plains_size : ∀ xs : List V, V.wfs xs → V.bulks (V.plains xs) ≤ 2 * V.bulks xs + 21 * V.nodess xs ∧ V.nodess (V.plains xs) ≤ V.nodess xs
  | [], _ => by simp [V.plains, V.bulks, V.nodess]
  | x :: xs, h => by have := V.plain_size x h.1; have := V.plains_size xs h.2; simp only [V.plains, V.bulks, V.nodess]; omega
theorem V.plainM_size : ∀ (acc xs : List V), V.wfs xs → V.bulks (V.plainM acc xs) ≤ V.bulks acc + 2 * V.bulks xs + 21 * V.nodess xs ∧ V.nodess (V.plainM acc xs) ≤ V.nodess acc + V.nodess xs ∧ (V.plainM acc xs).length ≤ acc.length + xs.length
  | acc, [], _ => by simp [V.plainM, V.bulks, V.nodess]
  | acc, [x], _ => by simp only [V.plainM, V.bulks, V.nodess, List.length_cons, List.length_nil]; omega
  | acc, x :: y :: r, h => by
    have h1 := V.plain_size y h.2.1
    have h2 := V.plainM_size (putV acc x (V.plain y)) r h.2.2
    have h3 := keyV_bulk x h.1
    have h4 := keyV_nodes x
    have h5 := x.nodes_pos
    have h6 : V.bulks (putV acc x (V.plain y)) ≤ V.bulks acc + (keyV x).bulk + (V.plain y).bulk := by
      unfold putV; split
      · simp only [V.bulks_append, V.bulks]; omega
      · omega
    have h7 : V.nodess (putV acc x (V.plain y)) ≤ V.nodess acc + (keyV x).nodes + (V.plain y).nodes := by
      unfold putV; split
      · simp only [V.nodess_append, V.nodess]; omega
      · omega
    have h8 := putV_length acc x (V.plain y)
    simp only [V.plainM, V.bulks, V.nodess, List.length_cons]
    omega
end

theorem keyV_wf (x : V) (h : x.wf) : (keyV x).wf := by
  unfold keyV; split
  · obtain ⟨k, n, e, s, kids⟩ := x
    have := Lib.itoa_length_le n h.2.1.1 h.2.1.2
    refine ⟨⟨by decide, by decide⟩, ⟨by decide, by decide⟩, ⟨by decide, by decide⟩, ?_, by simp, trivial⟩
    unfold strok; simp only [V.num]; omega
  · exact h
theorem putV_wf {acc : List V} {x y : V} (ha : V.wfs acc) (hx : x.wf) (hy : y.wf) : V.wfs (putV acc x y) := by
  unfold putV; split
  · exact V.wfs_append ha ⟨keyV_wf x hx, hy, trivial⟩
  · exact ha
mutual
theorem V.plain_wf : ∀ x : V, x.wf → x.bulk ≤ 4294967295 → (V.plain x).wf
  | .mk k n e s kids, hw, hb => by
    have hk := hw.2.2.2.2.2
    simp only [V.bulk] at hb
    by_cases h6 : k = 6
    · simp only [V.plain, if_pos h6]
      refine ⟨⟨by decide, by decide⟩, ⟨by decide, by decide⟩, ⟨by decide, by decide⟩, ?_, by simp, trivial⟩
      unfold strok; rw [hexL_length]; omega
    by_cases h9 : k = 9
    · simp only [V.plain, if_neg h6, if_pos h9]
      match kids, hk, hb with
      | [], hk, _ => exact hw
      | y :: r, hk, hb => exact V.plain_wf y hk.1 (by simp only [V.bulks, List.length_cons] at hb; omega)
    by_cases h7 : k = 7
    · simp only [V.plain, if_neg h6, if_neg h9, if_pos h7]
      exact ⟨⟨by decide, by decide⟩, ⟨by decide, by decide⟩, ⟨by decide, by decide⟩, by simp [strok], by rw [V.plains_length]; omega, V.plains_wf kids hk (by omega)⟩
    by_cases h8 : k = 8
    · simp only [V.plain, if_neg h6, if_neg h9, if_neg h7, if_pos h8]
      have := (V.plainM_size [] kids hk).2.2
      simp only [List.length_nil] at this
      exact ⟨⟨by decide, by decide⟩, ⟨by decide, by decide⟩, ⟨by decide, by decide⟩, by simp [strok], by omega, V.plainM_wf [] kids trivial hk (by omega)⟩
    · simp only [V.plain, if_neg h6, if_neg h9, if_neg h7, if_neg h8]; exact hw
theorem V.plains_wf : ∀ xs : List V, V.wfs xs → V.bulks xs ≤ 4294967295 → V.wfs (V.plains xs)
  | [], _, _ => trivial
  | x :: xs, h, hb => by simp only [V.bulks] at hb; exact ⟨V.plain_wf x h.1 (by omega), V.plains_wf xs h.2 (by omega)⟩
theorem V.plainM_wf : ∀ (acc xs : List V), V.wfs acc → V.wfs xs → V.bulks xs ≤ 4294967295 → V.wfs (V.plainM acc xs)
  | acc, [], ha, _, _ => ha
  | acc, [x], ha, _, _ => ha
  | acc, x :: y :: r, ha, h, hb => by
    simp only [V.bulks] at hb
    exact V.plainM_wf _ r (putV_wf ha h.1 (V.plain_wf y h.2.1 (by omega))) h.2.2 (by omega)
end
end Go.Proofs.YthngfihpnfoppaaDoor

/- What JSON holds of any value. No program in sight. -/
namespace Go.Proofs.YthngfihpnfoppaaDoor
open Go.RowKit
def V.plainTop (x : V) : V := if x.ok = true then (if x.plain.ok = true then x.plain else x) else x
end Go.Proofs.YthngfihpnfoppaaDoor

/- How big what JSON holds of a value is. No program in sight. -/
namespace Go.Proofs.YthngfihpnfoppaaDoor
open Go.RowKit
theorem V.self_text {q : List V → Bool} {k n e : Int} {s : List UInt8} {kids : List V} (h : V.selfBy q (.mk k n e s kids) = true) : s.length ≤ 2000 := by
  simp only [V.selfBy] at h
  by_cases h0 : k = 0 ∨ k = 1 ∨ k = 2
  · rw [if_pos h0] at h; simp only [Bool.and_eq_true, decide_eq_true_eq] at h; simp [h.2.2.1]
  rw [if_neg h0] at h
  by_cases h3 : k = 3
  · rw [if_pos h3] at h; simp only [Bool.and_eq_true, decide_eq_true_eq] at h; simp [h.2.1]
  rw [if_neg h3] at h
  by_cases h4 : k = 4
  · rw [if_pos h4] at h; simp only [Bool.and_eq_true, decide_eq_true_eq] at h; simp [h.2.1]
  rw [if_neg h4] at h
  by_cases h5 : k = 5
  · rw [if_pos h5] at h; simp only [Bool.and_eq_true, decide_eq_true_eq] at h; exact h.2.2.2.1
  rw [if_neg h5] at h
  by_cases h6 : k = 6
  · rw [if_pos h6] at h; simp only [Bool.and_eq_true, decide_eq_true_eq] at h; exact h.2.2.1
  rw [if_neg h6] at h
  by_cases h7 : k = 7
  · rw [if_pos h7] at h; simp only [Bool.and_eq_true, decide_eq_true_eq] at h; simp [h.2.2]
  rw [if_neg h7] at h
  by_cases h8 : k = 8
  · rw [if_pos h8] at h; simp only [Bool.and_eq_true, decide_eq_true_eq] at h; simp [h.2.2.1]
  rw [if_neg h8] at h
  by_cases h9 : k = 9
  · rw [if_pos h9] at h; simp only [Bool.and_eq_true, decide_eq_true_eq] at h; simp [h.2.2.1]
  rw [if_neg h9] at h; cases h
mutual
theorem V.right_bulk (q : List V → Bool) : ∀ (d : Int) (x : V), V.rightBy q d x = true → x.bulk + 1 ≤ 2001 * x.nodes
  | d, .mk k n e s kids, h => by
    simp only [V.rightBy, Bool.and_eq_true] at h
    have h1 := V.rights_bulk q (d - 1) kids h.1
    have h2 := V.self_text h.2.2
    simp only [V.bulk, V.nodes]; omega
theorem V.rights_bulk (q : List V → Bool) : ∀ (d : Int) (xs : List V), V.rightsBy q d xs = true → V.bulks xs + xs.length ≤ 2001 * V.nodess xs
  | _, [], _ => by simp [V.bulks]
  | d, x :: xs, h => by
    simp only [V.rightsBy, Bool.and_eq_true] at h
    have h1 := V.right_bulk q d x h.1
    have h2 := V.rights_bulk q d xs h.2
    simp only [V.bulks, V.nodess, List.length_cons]; omega
end
theorem V.ok_bulk {x : V} (h : x.ok = true) : x.bulk ≤ 1048576 := by
  unfold V.ok at h
  simp only [Bool.and_eq_true, decide_eq_true_eq] at h
  have := V.right_bulk _ _ _ h.1; omega
theorem V.plainTop_bulk {x : V} (h : x.bulk ≤ 1048576) : x.plainTop.bulk ≤ 1048576 := by
  unfold V.plainTop
  split
  · split
    · exact V.ok_bulk (by assumption)
    · exact h
  · exact h
end Go.Proofs.YthngfihpnfoppaaDoor

namespace Go.Proofs.YthngfihpnfoppaaDoor
open Go.RowKit

theorem tyVs : ElemTy Tryd.prog 24 26 5 64 := ElemTy.mk' (z := .agg #[.int .i64 0, .int .i64 0, .int .i64 0, .string ⟨#[]⟩, .slice none 0 0]) Tryd.underlying24 (by kernel_rfl) rfl (by decide)

theorem V.own {B : Nat} {w : World} {k m e : Int} {s : List UInt8} {kids : List V} {v1 : Value} (h : Own B w (.sl 5 (V.ds kids)) [v1]) :
    Own B w (V.d (.mk k m e s kids)) [.int .i64 k, .int .i64 m, .int .i64 e, .string ⟨s.toArray⟩, v1] := by
  obtain ⟨fp, h1, h2, h3⟩ := h
  refine ⟨fp, h1, h2, ?_⟩
  simp only [V.d, TreeC, TreeCs, dI, dS]
  exact ⟨[], fp, [_], _, by simp, rfl, rfl, ⟨rfl, rfl⟩, [], fp, [_], _, by simp, rfl, rfl, ⟨rfl, rfl⟩, [], fp, [_], _, by simp, rfl, rfl, ⟨rfl, rfl⟩,
    [], fp, [_], _, by simp, rfl, rfl, ⟨rfl, rfl⟩, fp, [], [_], [], by simp, rfl, rfl, by simpa only [TreeC] using h3, rfl, rfl⟩

end Go.Proofs.YthngfihpnfoppaaDoor

namespace Go.Proofs.YthngfihpnfoppaaDoor
open Go.RowKit

theorem mfind_step {xs : List V} {s : List UInt8} {j : Nat} (h : 2 * j + 1 < xs.length) : mfind (xs.drop (2 * j)) s (2 * j) = if xs[2 * j].kind = 5 ∧ xs[2 * j].text = s then ((2 * j : Nat) : Int) else mfind (xs.drop (2 * (j + 1))) s (2 * (j + 1)) := by
  rw [List.drop_eq_getElem_cons (by omega), List.drop_eq_getElem_cons h, mfind, show 2 * (j + 1) = 2 * j + 1 + 1 by omega]
theorem mfind_end {xs : List V} {s : List UInt8} {j : Nat} (h : ¬ 2 * j + 1 < xs.length) : mfind (xs.drop (2 * j)) s (2 * j) = -1 := by
  have hl : (xs.drop (2 * j)).length ≤ 1 := by rw [List.length_drop]; omega
  match xs.drop (2 * j), hl with
  | [], _ => rfl
  | [_], _ => rfl
theorem mfind_bd : ∀ (xs : List V) (s : List UInt8) (i : Nat), -1 ≤ mfind xs s i ∧ mfind xs s i ≤ i + xs.length
  | [], _, i => by simp only [mfind, List.length_nil]; omega
  | [_], _, i => by simp only [mfind, List.length_cons, List.length_nil]; omega
  | x :: y :: r, s, i => by
    have := mfind_bd r s (i + 2)
    simp only [mfind, List.length_cons]
    split <;> omega

set_option maxHeartbeats 800000 in
set_option maxRecDepth 10000 in
theorem l02Key_any (xs : List V) (v : Value) (s : List UInt8) (w : World) (h : Rd w (.sl 5 (V.ds xs)) [v]) (hl : xs.length ≤ 4294967295) :
    Calls Tryd.prog 37 #[v, .string ⟨s.toArray⟩] w fun e w' => e = .returned (.int .i64 (mfind xs s 0)) ∧ w' = w := by
  obtain ⟨a, c, rfl, hg⟩ := h.values
  obtain ⟨r, hr⟩ : ∃ r, mfind xs s 0 = r := ⟨_, rfl⟩
  rw [hr]
  go_enter Tryd.func37, Tryd.ntmps37
  go_wp2
  go_loopw [5] (fun i wr => ∃ (j : Nat), 2 * j ≤ xs.length + 1 ∧ i = .int .i64 ((2 * j : Nat) : Int) ∧ mfind (xs.drop (2 * j)) s (2 * j) = r ∧ wr = w) (fun i _ => xs.length + 2 - (intOf i).toNat)
  case atStart => exact ⟨0, by omega, rfl, by simpa using hr, rfl⟩
  case round =>
    obtain ⟨j, hj, rfl, hix, rfl⟩ := hrel
    obtain ⟨q, hq⟩ : ∃ q, q = 2 * j := ⟨_, rfl⟩
    have HQ := Lib.hid hq
    have HX := Lib.hid hix; clear hix
    rw [← hq]
    by_cases hlt : q + 1 < xs.length
    · have HS := Lib.hid (mfind_step (xs := xs) (s := s) (j := j) (by omega))
      obtain ⟨_, _, b, o, rfl, hb, hcell⟩ := hg (by intro e; rw [e] at hlt; simp at hlt)
      obtain ⟨v0, v1, v2, v3, v4, hr, d0, d1, d2, d3, d4⟩ := hcell q (by omega)
      obtain ⟨k, n, e, s', kids, u, hxe, hcs, _⟩ := V.lay hr
      simp only [List.cons.injEq, and_true] at hcs
      obtain ⟨rfl, rfl, rfl, rfl, rfl⟩ := hcs
      have HS2 := Lib.hid (show (if k = 5 ∧ s' = s then ((2 * j : Nat) : Int) else mfind (xs.drop (2 * (j + 1))) s (2 * (j + 1))) = r by
        rw [← HX.out, HS.out]
        have : xs[2 * j]'(by omega) = V.mk k n e s' kids := by rw [← hxe]; simp only [HQ.out]
        rw [this]; rfl)
      have i1 : (0 : Int) ≤ q := by omega
      have i2 : (q : Int) + 1 < xs.length := by omega
      have i3 : (q : Int) < xs.length := by omega
      have hq9 : q ≤ 4294967295 := by omega
      have HJ1 := Lib.hid (show 2 * (j + 1) ≤ xs.length + 1 ∧ ((q : Int) + 2 = ((2 * (j + 1) : Nat) : Int)) ∧ q + 2 ≤ xs.length + 1 by omega)
      clear hcell hg hxe hr hj HS hq hlt
      by_cases hk : k = 5
      · subst hk
        by_cases hs : s' = s
        · subst hs
          have HR := Lib.hid (show r = q by rw [← HS2.out, if_pos ⟨rfl, rfl⟩, HQ.out])
          go_wp2
          go_ret
          exact ⟨by rw [HR.out]; rfl, rfl⟩
        · have hsb : (s' == s) = false := by simpa using hs
          have HR := Lib.hid (show mfind (xs.drop (2 * (j + 1))) s (2 * (j + 1)) = r by rw [← HS2.out, if_neg (fun h => hs h.2)])
          clear hs
          go_wp2
          go_roundw
          case rel => exact ⟨j + 1, HJ1.out.1, by first | rw [← HJ1.out.2.1] | (rw [← HJ1.out.2.1]; rfl), HR.out, by first | rfl | trivial⟩
          case measure => have := HJ1.out.2.2; simp [intOf]; omega
      · have hkb : (k == 5) = false := by simpa using hk
        have HR := Lib.hid (show mfind (xs.drop (2 * (j + 1))) s (2 * (j + 1)) = r by rw [← HS2.out, if_neg (fun h => hk h.1)])
        clear hk
        go_wp2
        go_roundw
        case rel => exact ⟨j + 1, HJ1.out.1, by first | rw [← HJ1.out.2.1] | (rw [← HJ1.out.2.1]; rfl), HR.out, by first | rfl | trivial⟩
        case measure => have := HJ1.out.2.2; simp [intOf]; omega
    · have HR := Lib.hid (show r = -1 by rw [← HX.out, mfind_end (by omega)])
      have i1 : (0 : Int) ≤ q := by omega
      have hq9 : q ≤ 4294967297 := by omega
      have i2 : ¬ (q : Int) + 1 < xs.length := by omega
      clear hq
      go_wp2
      go_ret
      exact ⟨by rw [HR.out]; rfl, rfl⟩
set_option maxHeartbeats 800000 in
set_option maxRecDepth 10000 in
theorem find_any (x : V) (cs : List Value) (s : List UInt8) (w : World) (h0 : Rd w x.d cs) (hk8 : x.kind = 8) (hl : x.kids.length ≤ 4294967295) :
    Calls Tryd.prog 33 #[.agg cs.toArray, .string ⟨s.toArray⟩] w fun e w' => e = .returned (.int .i64 (mfind x.kids s 0)) ∧ Below w.heap.size w w' := by
  obtain ⟨k, n, e, s0, xs, v1, rfl, rfl, h⟩ := V.lay h0
  obtain rfl : k = 8 := hk8
  obtain ⟨a, c, rfl, hg⟩ := h.values
  simp only [V.kids] at hl ⊢
  obtain ⟨W0, hW0⟩ : ∃ W0, W0 = w.alloc (.cells #[.int .i64 8, .int .i64 n, .int .i64 e, .string ⟨s0.toArray⟩, .slice a xs.length c] 26) := ⟨_, rfl⟩
  have HW := Lib.hid hW0
  have hA0 : Below w.heap.size w W0 := by rw [hW0]; exact (Below.refl _ _).alloc (Nat.le_refl _) _
  have p0 : W0.cell? ⟨w.heap.size, 0, none⟩ = some (.int .i64 8) := by rw [hW0]; simp
  have p4 : W0.cell? ⟨w.heap.size, 4, none⟩ = some (.slice a xs.length c) := by rw [hW0]; simp
  clear hW0 h0
  obtain ⟨r, hr⟩ : ∃ r, mfind xs s 0 = r := ⟨_, rfl⟩
  rw [hr]
  go_enter Tryd.func33, Tryd.ntmps33
  go_wp2_with fail
  rw [← HW.out]
  go_loopw [5] (fun i wr => ∃ (j : Nat), 2 * j ≤ xs.length + 1 ∧ i = .int .i64 ((2 * j : Nat) : Int) ∧ mfind (xs.drop (2 * j)) s (2 * j) = r ∧ wr = W0) (fun i _ => xs.length + 2 - (intOf i).toNat)
  case atStart => exact ⟨0, by omega, rfl, by simpa using hr, rfl⟩
  case round =>
    obtain ⟨j, hj, rfl, hix, hwr⟩ := hrel
    subst hwr
    obtain ⟨q, hq⟩ : ∃ q, q = 2 * j := ⟨_, rfl⟩
    have HQ := Lib.hid hq
    have HX := Lib.hid hix; clear hix
    rw [← hq]
    by_cases hlt : q + 1 < xs.length
    · have HS := Lib.hid (mfind_step (xs := xs) (s := s) (j := j) (by omega))
      obtain ⟨_, _, b, o, rfl, hb, hcell⟩ := hg (by intro e; rw [e] at hlt; simp at hlt)
      obtain ⟨v0, v1, v2, v3, v4, hr, d0, d1, d2, d3, d4⟩ := hcell q (by omega)
      have hbc := (bcell hA0).1
      rw [← hbc _ _ hb] at d0 d1 d2 d3 d4
      clear hbc
      obtain ⟨k, n, e, s', kids, u, hxe, hcs, _⟩ := V.lay hr
      simp only [List.cons.injEq, and_true] at hcs
      obtain ⟨rfl, rfl, rfl, rfl, rfl⟩ := hcs
      have HS2 := Lib.hid (show (if k = 5 ∧ s' = s then ((2 * j : Nat) : Int) else mfind (xs.drop (2 * (j + 1))) s (2 * (j + 1))) = r by
        rw [← HX.out, HS.out]
        have : xs[2 * j]'(by omega) = V.mk k n e s' kids := by rw [← hxe]; simp only [HQ.out]
        rw [this]; rfl)
      have i1 : (0 : Int) ≤ q := by omega
      have i2 : (q : Int) + 1 < xs.length := by omega
      have i3 : (q : Int) < xs.length := by omega
      have hq9 : q ≤ 4294967295 := by omega
      have HJ1 := Lib.hid (show 2 * (j + 1) ≤ xs.length + 1 ∧ ((q : Int) + 2 = ((2 * (j + 1) : Nat) : Int)) ∧ q + 2 ≤ xs.length + 1 by omega)
      clear hcell hg hxe hr hj HS hq hlt
      by_cases hk : k = 5
      · subst hk
        by_cases hs : s' = s
        · subst hs
          have HR := Lib.hid (show r = q by rw [← HS2.out, if_pos ⟨rfl, rfl⟩, HQ.out])
          go_wp2
          go_ret
          exact ⟨by rw [HR.out]; rfl, hA0⟩
        · have hsb : (s' == s) = false := by simpa using hs
          have HR := Lib.hid (show mfind (xs.drop (2 * (j + 1))) s (2 * (j + 1)) = r by rw [← HS2.out, if_neg (fun h => hs h.2)])
          clear hs
          go_wp2
          go_roundw
          case rel => exact ⟨j + 1, HJ1.out.1, by first | rw [← HJ1.out.2.1] | (rw [← HJ1.out.2.1]; rfl), HR.out, by first | rfl | trivial⟩
          case measure => have := HJ1.out.2.2; simp [intOf]; omega
      · have hkb : (k == 5) = false := by simpa using hk
        have HR := Lib.hid (show mfind (xs.drop (2 * (j + 1))) s (2 * (j + 1)) = r by rw [← HS2.out, if_neg (fun h => hk h.1)])
        clear hk
        go_wp2
        go_roundw
        case rel => exact ⟨j + 1, HJ1.out.1, by first | rw [← HJ1.out.2.1] | (rw [← HJ1.out.2.1]; rfl), HR.out, by first | rfl | trivial⟩
        case measure => have := HJ1.out.2.2; simp [intOf]; omega
    · have HR := Lib.hid (show r = -1 by rw [← HX.out, mfind_end (by omega)])
      have i1 : (0 : Int) ≤ q := by omega
      have hq9 : q ≤ 4294967297 := by omega
      have i2 : ¬ (q : Int) + 1 < xs.length := by omega
      clear hq
      go_wp2
      go_ret
      exact ⟨by rw [HR.out]; rfl, hA0⟩
end Go.Proofs.YthngfihpnfoppaaDoor

namespace Go.Proofs.YthngfihpnfoppaaDoor
open Go.RowKit

/-- a slice of the call's own, from block B on, of elements of n cells that are own data, in other blocks -/
def OwnSl (B : Nat) (w : World) (e : TypeId) (n : Nat) (v : Value) (ds : List D) : Prop :=
  ∃ xs fp, w.ownsRow B e n v ds.length xs ∧ (∀ d ∈ ds, D.width d = n) ∧ TreeCs w ds fp xs ∧ fp.Nodup ∧ (∀ b ∈ fp, B ≤ b) ∧ (∀ g, v.ownBlock = some g → g ∉ fp)
theorem OwnSl.nil {B : Nat} {w : World} {e : TypeId} {n : Nat} : OwnSl B w e n (.slice none 0 0) [] :=
  ⟨[], [], ⟨by simp, .inl ⟨rfl, rfl⟩⟩, by simp, by simp [TreeCs], by simp, by simp, by simp⟩
theorem OwnSl.made {B : Nat} {w : World} {e : TypeId} {n : Nat} {cs : Array Value} {cap : Nat} (hB : B ≤ w.heap.size) (hm : cap ≤ maxLen) (hs : cs.size = cap * n) : OwnSl B (w.alloc (.cells cs e)) e n (.slice (some ⟨w.heap.size, 0, none⟩) 0 cap) [] :=
  ⟨[], [], World.ownsRow_made w cs cap hB hm hs, by simp, by simp [TreeCs], by simp, by simp, by simp⟩
theorem OwnSl.form {B : Nat} {w : World} {e : TypeId} {n : Nat} {v : Value} {ds : List D} (h : OwnSl B w e n v ds) : ∃ a c, v = .slice a ds.length c := by
  obtain ⟨xs, fp, hr, _⟩ := h
  rcases hr.2 with ⟨rfl, h2⟩ | ⟨g, cap, cur, rfl, _⟩
  · rw [h2]; exact ⟨none, 0, rfl⟩
  · exact ⟨_, _, rfl⟩
theorem OwnSl.below {B : Nat} {w w' : World} {e : TypeId} {n : Nat} {v : Value} {ds : List D} (h : OwnSl B w e n v ds) (hb : Below w.heap.size w w') : OwnSl B w' e n v ds := by
  obtain ⟨xs, fp, ⟨h1, h2⟩, hw, ht, k1, k2, k3⟩ := h
  refine ⟨xs, fp, ⟨h1, ?_⟩, hw, ht.frame fun b hx => hb.block b (ht.lt b hx), k1, k2, k3⟩
  rcases h2 with h2 | ⟨g, cap, cur, hv, hg, hh, r⟩
  · exact .inl h2
  · exact .inr ⟨g, cap, cur, hv, hg, by rw [hb.block g (heap_lt hh)]; exact hh, r⟩
theorem OwnSl.alloc {B : Nat} {w : World} {e : TypeId} {n : Nat} {v : Value} {ds : List D} (h : OwnSl B w e n v ds) (o : Obj) : OwnSl B (w.alloc o) e n v ds := h.below ((Below.refl _ _).alloc (Nat.le_refl _) o)
theorem OwnSl.setCell {B : Nat} {w : World} {e : TypeId} {n : Nat} {v : Value} {ds : List D} (h : OwnSl B w e n v ds) {p : Addr} (hp : p.block < B) (u : Value) : OwnSl B (w.setCell p u) e n v ds := by
  obtain ⟨xs, fp, hr, hw, ht, k1, k2, k3⟩ := h
  exact ⟨xs, fp, ownsRow_setCell_below hr hp u, hw, ht.frame fun b hx => Below.heap_setCell _ _ _ _ (by have := k2 b hx; omega), k1, k2, k3⟩
theorem OwnSl.own {B : Nat} {w : World} {e : TypeId} {n : Nat} {v : Value} {ds : List D} (h : OwnSl B w e n v ds) (hn : 0 < n) : Own B w (.sl n ds) [v] := by
  obtain ⟨xs, fp, ⟨h1, h2⟩, hw, ht, k1, k2, k3⟩ := h
  by_cases hne : ds = []
  · subst hne
    rcases h2 with ⟨rfl, _⟩ | ⟨g, cap, cur, rfl, _⟩
    · exact ⟨[], by simp, by simp, by simp [TreeC]⟩
    · exact ⟨[], by simp, by simp, by simp [TreeC]⟩
  · rcases h2 with ⟨_, h2⟩ | ⟨g, cap, cur, rfl, hg, hh, hc1, hc2, hsz, htk⟩
    · exact absurd (List.length_eq_zero_iff.1 h2) hne
    · refine ⟨g :: fp, ?_, ?_, ?_⟩
      · rw [List.nodup_cons]; exact ⟨k3 g rfl, k1⟩
      · intro b hb; rcases List.mem_cons.1 hb with rfl | hb
        · exact hg
        · exact k2 b hb
      · simp only [TreeC]
        refine ⟨_, cap, rfl, .inr ⟨g, fp, cur, e, rfl, rfl, hh, hn, ⟨hc1, hsz⟩, hc2, hw, ?_⟩⟩
        rw [Nat.mul_comm, htk]; exact ht
theorem OwnSl.mono {B B' : Nat} {w : World} {e : TypeId} {n : Nat} {v : Value} {ds : List D} (h : OwnSl B w e n v ds) (hB : B' ≤ B) : OwnSl B' w e n v ds := by
  obtain ⟨xs, fp, ⟨h1, h2⟩, hw, ht, k1, k2, k3⟩ := h
  refine ⟨xs, fp, ⟨h1, ?_⟩, hw, ht, k1, fun b hb => Nat.le_trans hB (k2 b hb), k3⟩
  rcases h2 with h2 | ⟨g, cap, cur, hv, hg, r⟩
  · exact .inl h2
  · exact .inr ⟨g, cap, cur, hv, Nat.le_trans hB hg, r⟩

theorem lit_cells {w : World} {news : List Value} {e : TypeId} : ∀ j u, news[j]? = some u → (w.alloc (.cells news.toArray e)).cell? ((⟨w.heap.size, 0, none⟩ : Addr).add j) = some u := by
  intro j u hj
  rw [add_plain, cell_of_block (heap_alloc_new w _)]; simpa using hj
/-- what an append to such a slice leaves -/
theorem OwnSl.grow {B : Nat} {w0 w1 w' : World} {e : TypeId} {n : Nat} {v : Value} {ds ds' : List D} {news xs : List Value} {fp f2 : List Nat} {g cap : Nat} (hB : B ≤ w0.heap.size) (hr0 : w0.ownsRow B e n v ds.length xs) (hw : ∀ d ∈ ds, D.width d = n) (ht : TreeCs w0 ds fp xs) (k1 : fp.Nodup) (k2 : ∀ b ∈ fp, B ≤ b) (k3 : ∀ g, v.ownBlock = some g → g ∉ fp)
    (hb : Below w0.heap.size w0 w1) (n2 : f2.Nodup) (b2 : ∀ b ∈ f2, w0.heap.size ≤ b) (t2 : TreeCs w1 ds' f2 news) (hw' : ∀ d ∈ ds', D.width d = n)
    (hrow : w'.ownsRow B e n (.slice (some ⟨g, 0, none⟩) (ds.length + ds'.length) cap) (ds.length + ds'.length) (xs ++ news)) (hgr : (w1.alloc (.cells news.toArray e)).grownBy w' v.ownBlock) (hg : v.ownBlock = some g ∨ g = (w1.alloc (.cells news.toArray e)).heap.size) :
    OwnSl B w' e n (.slice (some ⟨g, 0, none⟩) (ds.length + ds'.length) cap) (ds ++ ds') ∧ Below B w0 w' := by
  have hal : Below w1.heap.size w1 (w1.alloc (.cells news.toArray e)) := (Below.refl _ _).alloc (Nat.le_refl _) _
  have hb2 := below2 hb hal (Nat.le_refl _)
  have hbl : ∀ k, v.ownBlock = some k → B ≤ k ∧ k < w0.heap.size := hr0.lt
  have hsz := hb.size
  have hsz2 : (w1.alloc (.cells news.toArray e)).heap.size = w1.heap.size + 1 := by simp
  have hfr : ∀ b, b < (w1.alloc (.cells news.toArray e)).heap.size → v.ownBlock ≠ some b → w'.heap[b]? = (w1.alloc (.cells news.toArray e)).heap[b]? := fun b h1 h2 => hgr.block b h1 (fun h => h2 h.symm)
  refine ⟨⟨xs ++ news, fp ++ f2, by rw [List.length_append]; exact hrow, ?_, TreeCs.append (ht.frame fun b hx => ?_) (t2.frame fun b hx => ?_), ?_, ?_, ?_⟩, ?_⟩
  · intro d hd; rcases List.mem_append.1 hd with h | h
    · exact hw d h
    · exact hw' d h
  · have := ht.lt b hx
    rw [hfr b (by omega) (fun h => k3 b h hx), hb2.block b this]
  · have := t2.lt b hx
    rw [hfr b (by omega) (fun h => by have := (hbl b h).2; have := b2 b hx; omega), hal.block b this]
  · rw [List.nodup_append]
    refine ⟨k1, n2, fun a ha b hb' => ?_⟩
    have := ht.lt a ha; have := b2 b hb'; omega
  · intro b hx; rcases List.mem_append.1 hx with h | h
    · exact k2 b h
    · exact Nat.le_trans hB (b2 b h)
  · intro g' hg'
    obtain rfl : g = g' := by simpa [Value.ownBlock] using hg'
    intro hm
    rcases List.mem_append.1 hm with h | h
    · rcases hg with hg | hg
      · exact k3 g hg h
      · have := ht.lt g h; omega
    · rcases hg with hg | hg
      · have := (hbl g hg).2; have := b2 g h; omega
      · have := t2.lt g h; omega
  · exact (hb2.mono hB).grown hgr (by omega) (fun k hk => (hbl k hk).1)

/-- append of own data, made since, to such a slice: in a plain region -/
theorem wp_appD {P : Program} {ops : Array Oper} {rest : List Oper} {o : Oper} {a : Act} {Q : Exit → Act → World → Prop} {t e : TypeId} {n bytes : Nat} {s x : Operand} {v : Value} {ds ds' : List D} {news : List Value} {w0 w1 : World}
    (T : ElemTy P t e n bytes) (hgd : o.guard = none) (ho : o.op = .call { callee := .builtin .append, args := #[s, x], argTypes := #[t, t] })
    (B : Nat) (hown : OwnSl B w0 e n v ds) (hb : Below w0.heap.size w0 w1) (hB : B ≤ w0.heap.size) (k : Owns w0.heap.size w1 ds' news) (hw' : ∀ d ∈ ds', D.width d = n) (hne : 0 < ds'.length) (h1 : ∀ u ∈ news, u.oneCell' = true)
    (hs : a.eval s = v) (c : Nat) (hx : a.eval x = .slice (some ⟨w1.heap.size, 0, none⟩) ds'.length c) (h63 : ds.length + ds'.length ≤ 4294967296) (hby : bytes ≤ 32768)
    (h : ∀ g cap w', OwnSl B w' e n (.slice (some ⟨g, 0, none⟩) (ds.length + ds'.length) cap) (ds ++ ds') → Below B w0 w' → wpList P ops Q rest (a.put o.dst (.slice (some ⟨g, 0, none⟩) (ds.length + ds'.length) cap)) w') : wpList P ops Q (o :: rest) a (w1.alloc (.cells news.toArray e)) := by
  obtain ⟨xs, fp, hr, hw, ht, k1, k2, k3⟩ := hown
  obtain ⟨f2, n2, b2, t2⟩ := k
  obtain ⟨i, z, g1, g2, g3, g4, g5⟩ := T.info
  have hwd : ∀ ds : List D, (∀ d ∈ ds, D.width d = n) → D.widths ds = ds.length * n := by
    intro ds h; induction ds with
    | nil => simp [D.widths]
    | cons x r ih => simp only [D.widths, h x (by simp), ih (fun d hd => h d (by simp [hd])), List.length_cons, Nat.succ_mul]; omega
  have hr' : (w1.alloc (.cells news.toArray e)).ownsRow B e n v ds.length xs := by
    have hb2 := below2 hb ((Below.refl w1.heap.size w1).alloc (Nat.le_refl _) (.cells news.toArray e)) (Nat.le_refl _)
    refine ⟨hr.1, ?_⟩
    rcases hr.2 with h2 | ⟨g, cap, cur, hv, hg, hh, r⟩
    · exact .inl h2
    · exact .inr ⟨g, cap, cur, hv, hg, by rw [hb2.block g (heap_lt hh)]; exact hh, r⟩
  have hsz := hb.size
  refine wpList_append_lies _ hgd s x t ho B e i z n bytes T.under g1 g2 g3 g4 g5 T.pos v ds.length xs hs hr' ⟨w1.heap.size, 0, none⟩ ds'.length c news hx (by rw [t2.len, hwd ds' hw']) lit_cells h1 hne (by unfold maxLen; omega)
    (Nat.le_trans (Nat.mul_le_mul h63 hby) (by decide)) (by simp; omega) _ rfl ?_
  intro g cap w' q1 q2 q3 _
  obtain ⟨r1, r2⟩ := OwnSl.grow hB hr hw ht k1 k2 k3 hb n2 b2 t2 hw' q1 q2 q3
  exact h g cap w' r1 r2
/-- the same inside a region that draws its order -/
theorem step_appD {P : Program} {ops : Array Oper} {o : Oper} {a : Act} {K : Act → World → Prop} {Q : Exit → Act → World → Prop} {E : Prop} {t e : TypeId} {n bytes : Nat} {s x : Operand} {v : Value} {ds ds' : List D} {news : List Value} {w0 w1 : World}
    (T : ElemTy P t e n bytes) (hgd : o.guard = none) (ho : o.op = .call { callee := .builtin .append, args := #[s, x], argTypes := #[t, t] })
    (B : Nat) (hown : OwnSl B w0 e n v ds) (hb : Below w0.heap.size w0 w1) (hB : B ≤ w0.heap.size) (k : Owns w0.heap.size w1 ds' news) (hw' : ∀ d ∈ ds', D.width d = n) (hne : 0 < ds'.length) (h1 : ∀ u ∈ news, u.oneCell' = true)
    (hs : a.eval s = v) (c : Nat) (hx : a.eval x = .slice (some ⟨w1.heap.size, 0, none⟩) ds'.length c) (h63 : ds.length + ds'.length ≤ 4294967296) (hby : bytes ≤ 32768)
    (h : ∀ g cap w', OwnSl B w' e n (.slice (some ⟨g, 0, none⟩) (ds.length + ds'.length) cap) (ds ++ ds') → Below B w0 w' → K (a.put o.dst (.slice (some ⟨g, 0, none⟩) (ds.length + ds'.length) cap)) w') :
    if Region.wanted o (yielded ops a.tmps) = true then Oper.wp P o a (w1.alloc (.cells news.toArray e)) K Q else E := by
  obtain ⟨xs, fp, hr, hw, ht, k1, k2, k3⟩ := hown
  obtain ⟨f2, n2, b2, t2⟩ := k
  obtain ⟨i, z, g1, g2, g3, g4, g5⟩ := T.info
  have hwd : ∀ ds : List D, (∀ d ∈ ds, D.width d = n) → D.widths ds = ds.length * n := by
    intro ds h; induction ds with
    | nil => simp [D.widths]
    | cons x r ih => simp only [D.widths, h x (by simp), ih (fun d hd => h d (by simp [hd])), List.length_cons, Nat.succ_mul]; omega
  have hr' : (w1.alloc (.cells news.toArray e)).ownsRow B e n v ds.length xs := by
    have hb2 := below2 hb ((Below.refl w1.heap.size w1).alloc (Nat.le_refl _) (.cells news.toArray e)) (Nat.le_refl _)
    refine ⟨hr.1, ?_⟩
    rcases hr.2 with h2 | ⟨g, cap, cur, hv, hg, hh, r⟩
    · exact .inl h2
    · exact .inr ⟨g, cap, cur, hv, hg, by rw [hb2.block g (heap_lt hh)]; exact hh, r⟩
  have hsz := hb.size
  refine step_append_lies _ hgd s x t ho B e i z n bytes T.under g1 g2 g3 g4 g5 T.pos v ds.length xs hs hr' ⟨w1.heap.size, 0, none⟩ ds'.length c news hx (by rw [t2.len, hwd ds' hw']) lit_cells h1 hne (by unfold maxLen; omega)
    (Nat.le_trans (Nat.mul_le_mul h63 hby) (by decide)) (by simp; omega) _ rfl ?_
  intro g cap w' q1 q2 q3 _
  obtain ⟨r1, r2⟩ := OwnSl.grow hB hr hw ht k1 k2 k3 hb n2 b2 t2 hw' q1 q2 q3
  exact h g cap w' r1 r2
end Go.Proofs.YthngfihpnfoppaaDoor

namespace Go.Proofs.YthngfihpnfoppaaDoor
open Go.RowKit

/-- make([]T, 0, n) -/
theorem run_mk0 {P : Program} {t e : TypeId} {size bytes : Nat} (T : ElemTy P t e size bytes) (n : Nat) (hn : n ≤ 4294967296) (hb : bytes ≤ 32768) :
    ∃ cs : Array Value, cs.size = n * size ∧ ∀ w : World, (Instr.makeSlice t (.int .i64 0) (.int .i64 (n : Nat))).run P w = .ok (.slice (some ⟨w.heap.size, 0, none⟩) 0 n) (w.alloc (.cells cs e)) := by
  obtain ⟨i, z, h1, h2, h3, h4, h5⟩ := T.info
  refine ⟨madeCells z.cells (n * i.size), ?_, fun w => ?_⟩
  · rw [size_madeCells, h3]
  · have := run_make (P := P) w t e i z T.under h1 h2 .i64 .i64 0 (n : Nat) (by omega) (by omega) (by
      rw [h4]; have := Nat.mul_le_mul hb hn; have h : ((bytes * n : Nat) : Int) ≤ ((32768 * 4294967296 : Nat) : Int) := by exact_mod_cast this
      rw [Int.natCast_mul] at h; exact Int.le_trans h (by decide)) (by omega)
    simpa using this
theorem V.cells_one {w : World} {x : V} {cs : List Value} (h : Rd w x.d cs) : ∀ u ∈ cs, u.oneCell' = true := by
  obtain ⟨k, n, e, s, a, l, c, rfl⟩ := V.form h
  intro u hu; simp at hu; rcases hu with rfl | rfl | rfl | rfl | rfl <;> rfl

theorem V.bulk_getB {ls : List V} {m : Nat} (h : ls.length + V.bulks ls ≤ m) (k : Nat) (hk : k < ls.length) : ls[k].bulk ≤ m := by
  have h1 := V.bulks_snoc ls k hk; have h2 := V.bulks_take ls (k + 1); omega
theorem V.ds_take (xs : List V) (j : Nat) (h : j < xs.length) : V.ds (xs.take (j + 1)) = V.ds (xs.take j) ++ [xs[j].d] := by
  rw [V.ds_map, V.ds_map, take_map_snoc V.d xs j h]
theorem V.ds_length (xs : List V) : (V.ds xs).length = xs.length := by rw [V.ds_map, List.length_map]
end Go.Proofs.YthngfihpnfoppaaDoor

namespace Go.Proofs.YthngfihpnfoppaaDoor
open Go.RowKit

/-- a slice of the call's own, from block B on, of elements of n cells that read as data below block N -/
def RdSl (N B : Nat) (w : World) (e : TypeId) (n : Nat) (v : Value) (ds : List D) : Prop :=
  N ≤ B ∧ ∃ xs, w.ownsRow B e n v ds.length xs ∧ (∀ d ∈ ds, D.width d = n) ∧ RepCs (· < N) w ds xs
theorem RepCs.joinR {S : Nat → Prop} {w : World} : ∀ {ds es : List D} {c1 c2 : List Value}, RepCs S w ds c1 → RepCs S w es c2 → RepCs S w (ds ++ es) (c1 ++ c2)
  | [], es, c1, c2, h, k => by simp only [RepCs] at h; subst h; exact k
  | d :: ds, es, c1, c2, h, k => by
    simp only [RepCs] at h; obtain ⟨e1, e2, rfl, hl, h1, h2⟩ := h
    simp only [List.cons_append, RepCs]
    exact ⟨e1, e2 ++ c2, by simp, hl, h1, RepCs.joinR h2 k⟩
theorem RdSl.made {N B : Nat} {w : World} {e : TypeId} {n : Nat} {cs : Array Value} {cap : Nat} (hNB : N ≤ B) (hB : B ≤ w.heap.size) (hm : cap ≤ maxLen) (hs : cs.size = cap * n) : RdSl N B (w.alloc (.cells cs e)) e n (.slice (some ⟨w.heap.size, 0, none⟩) 0 cap) [] :=
  ⟨hNB, [], World.ownsRow_made w cs cap hB hm hs, by simp, by simp [RepCs]⟩
theorem RdSl.form {N B : Nat} {w : World} {e : TypeId} {n : Nat} {v : Value} {ds : List D} (h : RdSl N B w e n v ds) : ∃ a c, v = .slice a ds.length c := by
  obtain ⟨_, xs, hr, _⟩ := h
  rcases hr.2 with ⟨rfl, h2⟩ | ⟨g, cap, cur, rfl, _⟩
  · rw [h2]; exact ⟨none, 0, rfl⟩
  · exact ⟨_, _, rfl⟩
theorem RdSl.rd {N B : Nat} {w : World} {e : TypeId} {n : Nat} {v : Value} {ds : List D} (h : RdSl N B w e n v ds) (hn : 0 < n) : RepC (fun b => b < N ∨ B ≤ b) w (.sl n ds) [v] := by
  obtain ⟨_, xs, ⟨h1, h2⟩, hw, hr⟩ := h
  by_cases hne : ds = []
  · subst hne
    rcases h2 with ⟨rfl, _⟩ | ⟨g, cap, cur, rfl, _⟩
    · simp only [RepC]; exact ⟨none, 0, rfl, fun h => absurd rfl h⟩
    · simp only [RepC]; exact ⟨_, cap, rfl, fun h => absurd rfl h⟩
  · rcases h2 with ⟨_, h2⟩ | ⟨g, cap, cur, rfl, hg, hh, hc1, hc2, hsz, htk⟩
    · exact absurd (List.length_eq_zero_iff.1 h2) hne
    · simp only [RepC]
      refine ⟨_, cap, rfl, fun _ => ⟨hn, hc1, hc2, g, 0, xs, rfl, .inr hg, fun j u hj => ?_, hw, (Go.Proofs.YthngfihpnfoppaaDoor.RepCs.mono (fun b _ hb => .inl hb) hr)⟩⟩
      rw [Nat.zero_add, cell_of_block hh]
      rw [← htk, List.getElem?_take] at hj
      split at hj
      · simpa using hj
      · cases hj
theorem RepCs.drew {S : Nat → Prop} {w : World} {ds : List D} {cs : List Value} (h : RepCs S w ds cs) : RepCs S w.drew ds cs := Go.Proofs.YthngfihpnfoppaaDoor.RepCs.frame (w := w) (w' := w.drew) (fun _ _ => rfl) h
theorem RdSl.drew {N B : Nat} {w : World} {e : TypeId} {n : Nat} {v : Value} {ds : List D} (h : RdSl N B w e n v ds) : RdSl N B w.drew e n v ds := by
  obtain ⟨hn, xs, h1, hw, hr⟩ := h
  exact ⟨hn, xs, h1, hw, RepCs.drew hr⟩
theorem step_appR2 {P : Program} {ops : Array Oper} {o : Oper} {a : Act} {K : Act → World → Prop} {Q : Exit → Act → World → Prop} {E : Prop} {t e : TypeId} {n bytes : Nat} {s x : Operand} {v : Value} {ds ds' : List D} {news : List Value} {w1 : World}
    (T : ElemTy P t e n bytes) (hgd : o.guard = none) (ho : o.op = .call { callee := .builtin .append, args := #[s, x], argTypes := #[t, t] })
    (N B : Nat) (hown : RdSl N B w1 e n v ds) (hB : B ≤ w1.heap.size) (k : RepCs (· < N) w1 ds' news) (hw' : ∀ d ∈ ds', D.width d = n) (hne : 0 < ds'.length) (h1 : ∀ u ∈ news, u.oneCell' = true)
    (hs : a.eval s = v) (c : Nat) (hx : a.eval x = .slice (some ⟨w1.heap.size, 0, none⟩) ds'.length c) (h63 : ds.length + ds'.length ≤ 4294967296) (hby : bytes ≤ 32768)
    (h : ∀ g cap w', RdSl N B w' e n (.slice (some ⟨g, 0, none⟩) (ds.length + ds'.length) cap) (ds ++ ds') → Below B w1 w' → K (a.put o.dst (.slice (some ⟨g, 0, none⟩) (ds.length + ds'.length) cap)) w') :
    if Region.wanted o (yielded ops a.tmps) = true then Oper.wp P o a (w1.alloc (.cells news.toArray e)) K Q else E := by
  obtain ⟨hNB, xs, hr, hw, ht⟩ := hown
  obtain ⟨i, z, g1, g2, g3, g4, g5⟩ := T.info
  have hwd : ∀ ds : List D, (∀ d ∈ ds, D.width d = n) → D.widths ds = ds.length * n := by
    intro ds h; induction ds with
    | nil => simp [D.widths]
    | cons x r ih => simp only [D.widths, h x (by simp), ih (fun d hd => h d (by simp [hd])), List.length_cons, Nat.succ_mul]; omega
  have hal : Below w1.heap.size w1 (w1.alloc (.cells news.toArray e)) := (Below.refl _ _).alloc (Nat.le_refl _) _
  have hr' : (w1.alloc (.cells news.toArray e)).ownsRow B e n v ds.length xs := by
    refine ⟨hr.1, ?_⟩
    rcases hr.2 with h2 | ⟨g, cap, cur, hv, hg, hh, r⟩
    · exact .inl h2
    · exact .inr ⟨g, cap, cur, hv, hg, by rw [hal.block g (heap_lt hh)]; exact hh, r⟩
  refine step_append_lies _ hgd s x t ho B e i z n bytes T.under g1 g2 g3 g4 g5 T.pos v ds.length xs hs hr' ⟨w1.heap.size, 0, none⟩ ds'.length c news hx (by rw [k.len, hwd ds' hw']) lit_cells h1 hne (by unfold maxLen; omega)
    (Nat.le_trans (Nat.mul_le_mul h63 hby) (by decide)) (by simp; omega) _ rfl ?_
  intro g cap w' q1 q2 q3 _
  have hb : Below B w1 w' := (hal.mono hB).grown q2 (by simp; omega) (fun k hk => (hr.lt k hk).1)
  refine h g cap w' ⟨hNB, xs ++ news, by rw [List.length_append]; exact q1, ?_, RepCs.joinR (Go.Proofs.YthngfihpnfoppaaDoor.RepCs.frame (fun b hlt => hb.block b (Nat.lt_of_lt_of_le hlt hNB)) ht) (Go.Proofs.YthngfihpnfoppaaDoor.RepCs.frame (fun b hlt => hb.block b (Nat.lt_of_lt_of_le hlt hNB)) k)⟩ hb
  intro d hd; rcases List.mem_append.1 hd with h | h
  · exact hw d h
  · exact hw' d h
/-- the pairs of a map -/
def pairsD : List V → List D
  | x :: y :: r => .agg [x.d, y.d] :: pairsD r
  | _ => []
theorem pairsD_length : ∀ xs : List V, (pairsD xs).length = xs.length / 2
  | [] => rfl
  | [_] => by simp [pairsD]
  | x :: y :: r => by simp only [pairsD, List.length_cons, pairsD_length r]; omega
theorem pairsD_take : ∀ (xs : List V) (j : Nat) (h : 2 * j + 1 < xs.length), pairsD (xs.take (2 * (j + 1))) = pairsD (xs.take (2 * j)) ++ [.agg [xs[2 * j].d, xs[2 * j + 1].d]]
  | x :: y :: r, 0, _ => by simp [pairsD]
  | x :: y :: r, j + 1, h => by
    have := pairsD_take r j (by simp at h; omega)
    have e1 : (x :: y :: r).take (2 * (j + 1 + 1)) = x :: y :: r.take (2 * (j + 1)) := by
      rw [show 2 * (j + 1 + 1) = 2 * (j + 1) + 1 + 1 by omega]; rfl
    have e2 : (x :: y :: r).take (2 * (j + 1)) = x :: y :: r.take (2 * j) := by
      rw [show 2 * (j + 1) = 2 * j + 1 + 1 by omega]; rfl
    rw [e1, e2, pairsD, pairsD, this]
    rfl
theorem pairsD_odd : ∀ (xs : List V) (j : Nat), xs.length = 2 * j + 1 → pairsD (xs.take (2 * j)) = pairsD xs
  | [], j, h => by simp at h
  | [x], j, h => by
    obtain rfl : j = 0 := by simp at h; omega
    rfl
  | x :: y :: r, 0, h => by simp at h
  | x :: y :: r, j + 1, h => by
    have := pairsD_odd r j (by simp at h; omega)
    have e2 : (x :: y :: r).take (2 * (j + 1)) = x :: y :: r.take (2 * j) := by
      rw [show 2 * (j + 1) = 2 * j + 1 + 1 by omega]; rfl
    rw [e2, pairsD, pairsD, this]
theorem pairsD_get : ∀ (xs : List V) (j : Nat) (h : 2 * j + 1 < xs.length), (pairsD xs)[j]'(by rw [pairsD_length]; omega) = .agg [xs[2 * j].d, xs[2 * j + 1].d]
  | x :: y :: r, 0, _ => rfl
  | x :: y :: r, j + 1, h => by
    have := pairsD_get r j (by simp at h; omega)
    simp only [pairsD, List.getElem_cons_succ, this]; rfl
theorem pairsD_width : ∀ (xs : List V), ∀ d ∈ pairsD xs, D.width d = 10
  | [], d, h => by simp [pairsD] at h
  | [_], d, h => by simp [pairsD] at h
  | x :: y :: r, d, h => by
    simp only [pairsD, List.mem_cons] at h
    rcases h with rfl | h
    · simp [D.width, D.widths, V.width]
    · exact pairsD_width r d h
end Go.Proofs.YthngfihpnfoppaaDoor

/- The pairs of a map: the program's pairsOf. -/
namespace Go.Proofs.YthngfihpnfoppaaDoor
open Go.RowKit

theorem tyPr : ElemTy Tryd.prog 50 53 10 128 := ElemTy.mk' (z := .agg #[.int .i64 0, .int .i64 0, .int .i64 0, .string ⟨#[]⟩, .slice none 0 0, .int .i64 0, .int .i64 0, .int .i64 0, .string ⟨#[]⟩, .slice none 0 0]) Tryd.underlying50 (by kernel_rfl) rfl (by decide)
set_option maxHeartbeats 2000000 in
set_option maxRecDepth 10000 in
theorem pairsOf_any (N : Nat) (x : V) (cs : List Value) (w : World) (h0 : RepC (· < N) w x.d cs) (hN : N ≤ w.heap.size) (hl : x.kids.length ≤ 4294967295) :
    Calls Tryd.prog 31 #[.agg cs.toArray] w fun e w' => ∃ v', e = .returned v' ∧ Below w.heap.size w w' ∧ RepC (fun b => b < N ∨ w.heap.size ≤ b) w' (.sl 10 (pairsD x.kids)) [v'] := by
  obtain ⟨k, n, e, s0, xs, v1, rfl, rfl, h⟩ := V.layS h0
  obtain ⟨a, c, rfl, hg⟩ := RepC.values h
  simp only [V.kids] at hl ⊢
  obtain ⟨W0, hW0⟩ : ∃ W0, W0 = (w.alloc (.cells #[.int .i64 k, .int .i64 n, .int .i64 e, .string ⟨s0.toArray⟩, .slice a xs.length c] 26)).alloc (.cells #[] 53) := ⟨_, rfl⟩
  have HW := Lib.hid hW0
  have hA0 : Below w.heap.size w W0 := by rw [hW0]; exact ((Below.refl _ _).alloc (Nat.le_refl _) _).alloc (by simp) _
  obtain ⟨B, hBd⟩ : ∃ B, B = w.heap.size + 1 := ⟨_, rfl⟩
  have hz0 : w.heap.size < B := by omega
  have hzB : W0.heap.size = B + 1 := by rw [hW0, hBd]; simp
  have hst : RdSl N B W0 53 10 (.slice (some ⟨w.heap.size + 1, 0, none⟩) 0 0) [] := by
    rw [hW0]
    have := RdSl.made (N := N) (B := B) (w := w.alloc (.cells #[.int .i64 k, .int .i64 n, .int .i64 e, .string ⟨s0.toArray⟩, .slice a xs.length c] 26)) (e := 53) (n := 10) (cs := #[]) (cap := 0) (by omega) (by rw [hBd]; simp) (by decide) rfl
    simpa using this
  have HST := Lib.hid hst
  have KB : Hid (∀ W, Below B W0 W → W.cell? ⟨w.heap.size, 4, none⟩ = some (.slice a xs.length c)) := by
    intro W hb
    rw [hb.cell (p := ⟨w.heap.size, 4, none⟩) hz0]
    subst hW0; simp
  clear hW0 hst h0 hBd
  go_enter Tryd.func31, Tryd.ntmps31
  go_wp2_with fail
  rw [← HW.out]
  go_loopw [3, 4] (fun v i wr => ∃ j : Nat, 2 * j ≤ xs.length ∧ i = .int .i64 ((2 * j : Nat) : Int) ∧ RdSl N B wr 53 10 v (pairsD (xs.take (2 * j))) ∧ Below B W0 wr) (fun _ i _ => xs.length + 2 - (intOf i).toNat)
  case atStart => exact ⟨0, by omega, rfl, by simpa [pairsD] using HST.out, Below.refl _ _⟩
  case round =>
    obtain ⟨j, hj, rfl, hown, hbel⟩ := hrel
    obtain ⟨av, cv, rfl⟩ := hown.form
    have hdl : (pairsD (xs.take (2 * j))).length = j := by rw [pairsD_length, List.length_take]; omega
    rw [hdl] at hown ⊢
    have hsz := hbel.size
    obtain ⟨q, hq⟩ : ∃ q, q = 2 * j := ⟨_, rfl⟩
    have HQ := Lib.hid hq
    have p4 := KB.out _ hbel
    by_cases hlt : q + 1 < xs.length
    · have hlt0 : q < xs.length := Nat.lt_of_succ_lt hlt
      have HS := Lib.hid (show pairsD (xs.take (2 * (j + 1))) = pairsD (xs.take (2 * j)) ++ [.agg [(xs[q]'hlt0).d, (xs[q + 1]'hlt).d]] by subst hq; exact pairsD_take xs j hlt)
      obtain ⟨_, _, b, o, rfl, hb, hcell⟩ := hg (by intro e; rw [e] at hlt; simp at hlt)
      obtain ⟨v0, v1, v2, v3, v4, hr, d0, d1, d2, d3, d4⟩ := hcell q (by omega)
      obtain ⟨u0, u1, u2, u3, u4, hr', e0, e1, e2, e3, e4⟩ := hcell (q + 1) hlt
      clear hcell hg
      obtain ⟨k1, k2, k3, s4, a5, n5, m5, hcs⟩ := V.formS hr
      simp only [List.cons.injEq, and_true] at hcs
      obtain ⟨rfl, rfl, rfl, rfl, rfl⟩ := hcs
      obtain ⟨l1, l2, l3, t4, b5, r5, z5, hcs⟩ := V.formS hr'
      simp only [List.cons.injEq, and_true] at hcs
      obtain ⟨rfl, rfl, rfl, rfl, rfl⟩ := hcs
      have hbw : Below w.heap.size w wr := hA0.trans (hbel.mono (by omega))
      have hrB : RepCs (· < N) wr [.agg [xs[q].d, xs[q + 1].d]] [.int .i64 k1, .int .i64 k2, .int .i64 k3, .string ⟨s4.toArray⟩, .slice a5 n5 m5, .int .i64 l1, .int .i64 l2, .int .i64 l3, .string ⟨t4.toArray⟩, .slice b5 r5 z5] := by
        have g1 : RepC (· < N) wr xs[q].d _ := RepC.frame (S := (· < N)) (fun b hlt => hbw.block b (Nat.lt_of_lt_of_le hlt hN)) hr
        have g2 : RepC (· < N) wr xs[q + 1].d _ := RepC.frame (S := (· < N)) (fun b hlt => hbw.block b (Nat.lt_of_lt_of_le hlt hN)) hr'
        simp only [RepCs, RepC]
        exact ⟨_, [], by simp, by simp [D.width, D.widths, V.width], ⟨_, _, rfl, by simp [V.width], g1, _, [], rfl, by simp [V.width], g2, rfl⟩, rfl⟩
      have hbc := (bcell hbw).1
      rw [← hbc _ _ (Nat.lt_of_lt_of_le hb hN)] at d0 d1 d2 d3 d4 e0 e1 e2 e3 e4
      have i1 : (0 : Int) ≤ q := by omega
      have i2 : (q : Int) + 1 < xs.length := by omega
      have i3 : (q : Int) < xs.length := by omega
      have i4 : IntKind.i64.wrap ((q : Int) + 1) = (q : Int) + 1 := IntWalk.i64_in _ (by omega)
      have i5 : (0 : Int) ≤ (q : Int) + 1 := by omega
      have i6 : ((q : Int) + 1).toNat = q + 1 := by omega
      have hj2 : j + 1 ≤ 4294967296 := by omega
      have HJ1 := Lib.hid (show 2 * (j + 1) ≤ xs.length ∧ ((q : Int) + 2 = ((2 * (j + 1) : Nat) : Int)) ∧ q + 2 ≤ xs.length + 1 by omega)
      have hsS := fun W (hW : W.heap = wr.heap ∨ Below wr.heap.size wr W) => True
      have hw0 := Below.refl B wr
      have KR : Hid (∀ W, Below B wr W → W.cell? ⟨w.heap.size, 4, none⟩ = some (.slice (some ⟨b, o, none⟩) xs.length c) ∧ (W.cell? ⟨b, o + q * 5, none⟩ = some (.int .i64 k1) ∧ W.cell? ⟨b, o + q * 5 + 1, none⟩ = some (.int .i64 k2) ∧ W.cell? ⟨b, o + q * 5 + 2, none⟩ = some (.int .i64 k3) ∧ W.cell? ⟨b, o + q * 5 + 3, none⟩ = some (.string ⟨s4.toArray⟩) ∧ W.cell? ⟨b, o + q * 5 + 4, none⟩ = some (.slice a5 n5 m5)) ∧
          (W.cell? ⟨b, o + (q + 1) * 5, none⟩ = some (.int .i64 l1) ∧ W.cell? ⟨b, o + (q + 1) * 5 + 1, none⟩ = some (.int .i64 l2) ∧ W.cell? ⟨b, o + (q + 1) * 5 + 2, none⟩ = some (.int .i64 l3) ∧ W.cell? ⟨b, o + (q + 1) * 5 + 3, none⟩ = some (.string ⟨t4.toArray⟩) ∧ W.cell? ⟨b, o + (q + 1) * 5 + 4, none⟩ = some (.slice b5 r5 z5))) := by
        intro W hW
        have hc : ∀ b o, b < B → W.cell? ⟨b, o, none⟩ = wr.cell? ⟨b, o, none⟩ := fun b o h => hW.cell (p := ⟨b, o, none⟩) h
        have g1 : b < B := by omega
        have g2 : w.heap.size < B := by omega
        simp only [hc _ _ g1, hc _ _ g2]
        exact ⟨p4, ⟨d0, d1, d2, d3, d4⟩, e0, e1, e2, e3, e4⟩
      rw [← hq]
      clear hsS hr hr' hbc hq hj d0 d1 d2 d3 d4 e0 e1 e2 e3 e4
      go_wp2_with fail
      clear p4
      go_region_held3 (fun W => W.cell? ⟨w.heap.size, 4, none⟩ = some (.slice (some ⟨b, o, none⟩) xs.length c) ∧ (W.cell? ⟨b, o + q * 5, none⟩ = some (.int .i64 k1) ∧ W.cell? ⟨b, o + q * 5 + 1, none⟩ = some (.int .i64 k2) ∧ W.cell? ⟨b, o + q * 5 + 2, none⟩ = some (.int .i64 k3) ∧ W.cell? ⟨b, o + q * 5 + 3, none⟩ = some (.string ⟨s4.toArray⟩) ∧ W.cell? ⟨b, o + q * 5 + 4, none⟩ = some (.slice a5 n5 m5)) ∧
          (W.cell? ⟨b, o + (q + 1) * 5, none⟩ = some (.int .i64 l1) ∧ W.cell? ⟨b, o + (q + 1) * 5 + 1, none⟩ = some (.int .i64 l2) ∧ W.cell? ⟨b, o + (q + 1) * 5 + 2, none⟩ = some (.int .i64 l3) ∧ W.cell? ⟨b, o + (q + 1) * 5 + 3, none⟩ = some (.string ⟨t4.toArray⟩) ∧ W.cell? ⟨b, o + (q + 1) * 5 + 4, none⟩ = some (.slice b5 r5 z5)))
        (first | exact KR.out _ hw0 | exact KR.out _ hw0.drew | exact KR.out _ (hw0.drew.alloc (by simp; omega) _) | exact KR.out _ (hw0.drew.trans hbel2))
        ((refine step_appR2 (w1 := wr.drew) (ds' := [.agg [xs[q].d, xs[q + 1].d]]) tyPr rfl rfl N B hown.drew (by simp; omega) (RepCs.drew hrB) (by intro d hd; simp at hd; subst hd; simp [D.width, D.widths, V.width]) (by simp) (by simp [Value.oneCell']) rfl 1 rfl (by rw [hdl]; simp; omega) (by decide) ?_; intro g cap w2 hown2 hbel2))
      all_goals
        go_wp2
        go_roundw
        case rel => exact ⟨j + 1, HJ1.out.1, by first | rw [← HJ1.out.2.1] | (rw [← HJ1.out.2.1]; rfl), by rw [HS.out]; simpa [hdl] using hown2, hbel.trans (hw0.drew.trans hbel2)⟩
        case measure => have := HJ1.out.2.2; simp [intOf]; omega
    · have hp : j = xs.length / 2 := by omega
      have hta : pairsD (xs.take (2 * j)) = pairsD xs := by
        by_cases h2 : 2 * j = xs.length
        · rw [h2, List.take_length]
        · have hl' : xs.length = 2 * j + 1 := by omega
          exact pairsD_odd xs j hl'
      rw [hta] at hown
      have i1 : (0 : Int) ≤ q := by omega
      have i2 : ¬ (q : Int) + 1 < xs.length := by omega
      have hq9 : q ≤ 4294967297 := by omega
      have hrd := RepC.mono (T := fun b => b < N ∨ w.heap.size ≤ b) (fun b _ hb => hb.imp id (fun h => by omega)) (hown.rd (by decide))
      have hfin : Below w.heap.size w wr := hA0.trans (hbel.mono (by omega))
      rw [← hq]
      clear hq hp hta hown hdl hj hlt
      go_wp2
      go_ret
      exact ⟨_, rfl, hfin, hrd⟩
end Go.Proofs.YthngfihpnfoppaaDoor

namespace Go.Proofs.YthngfihpnfoppaaDoor
open Go.RowKit

theorem step_appR {P : Program} {ops : Array Oper} {o : Oper} {a : Act} {w : World} {K : Act → World → Prop} {Q : Exit → Act → World → Prop} {E : Prop} {t e : TypeId} {bytes : Nat} {s x : Operand} {v : Value} {xs ys : List Value}
    (T : ElemTy P t e 1 bytes) (hgd : o.guard = none) (ho : o.op = .call { callee := .builtin .append, args := #[s, x], argTypes := #[t, t] })
    (B : Nat) (hown : OwnR w B e v xs) (hs : a.eval s = v) (ad : Addr) (c : Nat) (hx : a.eval x = .slice (some ad) ys.length c)
    (hnews : ∀ j u, ys[j]? = some u → w.cell? (ad.add j) = some u) (h1 : ∀ u ∈ ys, u.oneCell' = true) (hy : 0 < ys.length)
    (h63 : xs.length + ys.length ≤ 4294967296) (hby : bytes ≤ 32768) (hB : B ≤ w.heap.size)
    (h : ∀ v' w', OwnR w' B e v' (xs ++ ys) → w.grownBy w' v.ownBlock → K (a.put o.dst v') w') :
    if Region.wanted o (yielded ops a.tmps) = true then Oper.wp P o a w K Q else E := by
  obtain ⟨i, z, h1', h2, h3, h4, h5⟩ := T.info
  refine step_append_lies w hgd s x t ho B e i z 1 bytes T.under h1' h2 h3 h4 h5 T.pos v xs.length xs hs hown ad ys.length c ys hx (by simp) hnews h1 hy (by unfold maxLen; omega)
    (Nat.le_trans (Nat.mul_le_mul h63 hby) (by decide)) hB w.heap.size rfl ?_
  intro g cap w' h1 h2 h3 h4
  refine h _ w' ?_ h2
  unfold OwnR
  rw [List.length_append]; exact h1
theorem step_appB {P : Program} {ops : Array Oper} {o : Oper} {a : Act} {w : World} {K : Act → World → Prop} {Q : Exit → Act → World → Prop} {E : Prop} {t u8 : TypeId} {s x : Operand} {v : Value} {l r : List UInt8}
    (T : ElemTy P t u8 1 1) (hgd : o.guard = none) (ho : o.op = .call { callee := .builtin .append, args := #[s, x], argTypes := #[t, t] })
    (B : Nat) (hown : OwnB w B u8 v l) (hs : a.eval s = v) (ad : Addr) (c : Nat) (hx : a.eval x = .slice (some ad) r.length c)
    (hnews : ∀ j u, (r.map fun b => Value.int .u8 ((b.toNat : Nat) : Int))[j]? = some u → w.cell? (ad.add j) = some u) (hy : 0 < r.length)
    (h63 : l.length + r.length ≤ 4294967296) (hB : B ≤ w.heap.size)
    (h : ∀ v' w', OwnB w' B u8 v' (l ++ r) → w.grownBy w' v.ownBlock → v' ≠ .slice none 0 0 → K (a.put o.dst v') w') :
    if Region.wanted o (yielded ops a.tmps) = true then Oper.wp P o a w K Q else E := by
  obtain ⟨i, z, h1', h2, h3, h4, h5⟩ := T.info
  refine step_append_lies w hgd s x t ho B u8 i z 1 1 T.under h1' h2 h3 h4 h5 T.pos v l.length _ hs hown ad r.length c (r.map fun b => Value.int .u8 ((b.toNat : Nat) : Int)) hx (by simp) hnews (bytes_one r) hy (by unfold maxLen; omega)
    (Nat.le_trans (Nat.mul_le_mul h63 (by decide : 1 ≤ 32768)) (by decide)) hB w.heap.size rfl ?_
  intro g cap w' h1 h2 h3 h4
  refine h _ w' ?_ h2 (by simp)
  unfold OwnB
  rw [List.length_append, List.map_append]; exact h1
theorem cell_one_of {w : World} {u : Value} {e : TypeId} : ∀ j x, [u][j]? = some x → (w.alloc (.cells #[u] e)).cell? ((⟨w.heap.size, 0, none⟩ : Addr).add j) = some x := by
  intro j x hj
  match j with
  | 0 => simp at hj; subst hj; simp [Addr.add]
  | j + 1 => simp at hj
end Go.Proofs.YthngfihpnfoppaaDoor

namespace Go.Proofs.YthngfihpnfoppaaDoor
open Go.RowKit

theorem tyVi : ElemTy Tryd.prog 24 26 5 64 := ElemTy.mk' (z := .agg #[.int .i64 0, .int .i64 0, .int .i64 0, .string ⟨#[]⟩, .slice none 0 0]) Tryd.underlying24 (by kernel_rfl) rfl (by decide)
def CpA (n : Nat) : Prop := ∀ (x : V) (cs : List Value) (w : World), x.nodes ≤ n → Rd w x.d cs → x.bulk ≤ 4294967295 →
  Calls Tryd.prog 16 #[.agg cs.toArray] w fun e w' => ∃ cs', e = .returned (.agg cs'.toArray) ∧ Below w.heap.size w w' ∧ Own w.heap.size w' x.d cs'
def CpB (n : Nat) : Prop := ∀ (xs : List V) (v : Value) (w : World), V.nodess xs ≤ n → Rd w (.sl 5 (V.ds xs)) [v] → xs.length + V.bulks xs ≤ 4294967295 →
  Calls Tryd.prog 34 #[v] w fun e w' => ∃ v', e = .returned v' ∧ Below w.heap.size w w' ∧ Own w.heap.size w' (.sl 5 (V.ds xs)) [v']


set_option maxHeartbeats 1000000 in
set_option maxRecDepth 10000 in
theorem CpB_of {n : Nat} (hA : CpA n) : CpB n := by
  intro xs v w hn h hbk
  obtain ⟨a, c, rfl, hg⟩ := h.values
  have hl : xs.length ≤ 4294967295 := by omega
  go_enter Tryd.func34, Tryd.ntmps34
  go_wp2
  go_loopw [3, 4] (fun o i wr => ∃ (j : Nat), j ≤ xs.length ∧ i = .int .i64 j ∧ OwnSl w.heap.size wr 26 5 o (V.ds (xs.take j)) ∧ Below w.heap.size w wr) (fun _ i _ => xs.length - (intOf i).toNat)
  case atStart => exact ⟨0, Nat.zero_le _, rfl, OwnSl.made (cap := 0) (Nat.le_refl _) (by decide) rfl, (Below.refl _ _).alloc (Nat.le_refl _) _⟩
  case round =>
    obtain ⟨j, hj, rfl, hown, hbel⟩ := hrel
    obtain ⟨av, cv, rfl⟩ := hown.form
    have hdl : (V.ds (xs.take j)).length = j := by rw [V.ds_length, List.length_take]; omega
    rw [hdl] at hown ⊢
    by_cases hlt : j < xs.length
    · obtain ⟨_, _, b, o, rfl, hb, hcell⟩ := hg (by intro e; rw [e] at hlt; simp at hlt)
      obtain ⟨v0, v1, v2, v3, v4, hr, d0, d1, d2, d3, d4⟩ := hcell j hlt
      clear hcell hg
      obtain ⟨k1, k2, k3, s4, a5, n5, m5, hcs⟩ := V.form hr
      simp only [List.cons.injEq, and_true] at hcs
      obtain ⟨rfl, rfl, rfl, rfl, rfl⟩ := hcs
      have hbc := (bcell hbel).1
      rw [← hbc _ _ hb] at d0 d1 d2 d3 d4
      have i1 : (0 : Int) ≤ j := by omega
      have i2 : (j : Int) < xs.length := by omega
      have hn1 := V.nodes_get xs j hlt
      have hb1 := V.bulk_getB hbk j hlt
      have HC := Lib.hid (hA xs[j] _ wr (Nat.le_trans hn1 hn) (hr.below hbel) hb1)
      have HS := Lib.hid (V.ds_take xs j hlt)
      have hsz := hbel.size
      clear hbc hr hn1 hb1
      go_wp2_with (first | (go_at_call 16; refine HC.out.mono ?_; rintro e1 w1 ⟨cs', rfl, hb1, hox⟩; obtain ⟨x0, x1, x2, x3, xa, xl, xc, rfl⟩ := V.form hox.rd) | (at_builtin; refine wp_appD tyVi rfl rfl w.heap.size hown hb1 hsz (Owns.of1 hox) (by intro d hd; simp at hd; subst hd; exact V.width _) (by simp) (V.cells_one hox.rd) rfl 1 rfl (by rw [hdl]; simp; omega) (by decide) ?_))
      intro g cap w2 hown2 hbel2
      try rw [hdl] at hown2
      go_wp2
      go_roundw
      case rel => exact ⟨j + 1, by omega, by go_num, by rw [HS.out]; simpa using hown2, hbel.trans hbel2⟩
      case measure => simp [intOf]; omega
    · obtain rfl : j = xs.length := by omega
      rw [List.take_length] at hown
      go_wp2
      go_ret
      exact ⟨_, rfl, hbel, hown.own (by decide)⟩

set_option maxHeartbeats 1000000 in
set_option maxRecDepth 10000 in
theorem CpA_of {n : Nat} (hB : CpB n) : CpA (n + 1) := by
  intro x cs w hn h hlen
  obtain ⟨k, m, e, s, kids, v1, rfl, rfl, hkids⟩ := V.lay h
  have hnk : V.nodess kids ≤ n := by simp only [V.nodes] at hn; omega
  simp only [V.bulk] at hlen
  obtain ⟨va, vc, rfl⟩ := Rd.sl_form hkids
  rw [V.ds_length] at hkids ⊢
  have hA := (Below.refl w.heap.size w).alloc (Nat.le_refl _) (.cells #[.int .i64 k, .int .i64 m, .int .i64 e, .string ⟨s.toArray⟩, .slice va kids.length vc] 26)
  clear h
  have hkb : kids.length + V.bulks kids ≤ 4294967295 := by omega
  go_enter Tryd.func16, Tryd.ntmps16
  go_wp2_with (go_at_call 34; refine (hB _ _ _ hnk (((hkids.alloc _).alloc _).alloc _) hkb).mono ?_; rintro e1 w2 ⟨x2, rfl, hb2, hown2⟩; obtain ⟨a2, m2, n2, rfl⟩ := Rd.sl_any hown2.rd; obtain ⟨hc2, hf2⟩ := bcell hb2; have hz2 := hb2.size; simp at hz2; have g4 : w.heap.size < w2.heap.size := (by omega); have g5 : w.heap.size + 1 < w2.heap.size := (by omega); have g6 : w.heap.size + 1 + 1 < w2.heap.size := (by omega))
  refine bodyPost_ret (v := .agg #[.int .i64 k, .int .i64 m, .int .i64 e, .string ⟨s.toArray⟩, .slice a2 m2 n2]) ?_ rfl ⟨[.int .i64 k, .int .i64 m, .int .i64 e, .string ⟨s.toArray⟩, .slice a2 m2 n2], rfl, ?_, ?_⟩
  · simp [results, Tryd.results16, go_sem, hc2]
  · iterate 6 (refine Below.setCell ?_ (by simp; try omega) _)
    exact below2 ((hA.alloc (by simp; try omega) _).alloc (by simp; try omega) _) hb2 (Nat.le_refl _)
  · refine Own.mono (B := w.heap.size + 1 + 1 + 1) ?_ (by omega)
    iterate 6 (refine Own.setCell ?_ (by simp; try omega) _)
    exact V.own (hown2.mono (by simp; try omega))
theorem Cp_all : ∀ n, CpA n ∧ CpB n
  | 0 => by
    have h0 : CpA 0 := fun sh cs w hn => absurd (V.nodes_pos sh) (by omega)
    exact ⟨h0, CpB_of h0⟩
  | n + 1 => by
    have h1 := CpA_of (Cp_all n).2
    exact ⟨h1, CpB_of h1⟩
theorem l02Copy_any (x : V) (cs : List Value) (w : World) (h : Rd w x.d cs) (hs : x.bulk ≤ 4294967295) :
    Calls Tryd.prog 16 #[.agg cs.toArray] w fun e w' => ∃ cs', e = .returned (.agg cs'.toArray) ∧ Below w.heap.size w w' ∧ Own w.heap.size w' x.d cs' :=
  (Cp_all x.nodes).1 x cs w (Nat.le_refl _) h hs

def OwA (n : Nat) : Prop := ∀ (x : V) (cs : List Value) (w : World), x.nodes ≤ n → Rd w x.d cs → x.bulk ≤ 4294967295 →
  Calls Tryd.prog 14 #[.agg cs.toArray] w fun e w' => ∃ cs', e = .returned (.agg cs'.toArray) ∧ Below w.heap.size w w' ∧ Own w.heap.size w' x.d cs'

set_option maxHeartbeats 2000000 in
set_option maxRecDepth 10000 in
theorem OwA_of {n : Nat} (hA : OwA n) : OwA (n + 1) := by
  intro x cs w hn h hlen
  obtain ⟨k, m, e, s, kids, v1, rfl, rfl, hkids⟩ := V.lay h
  have hnk : V.nodess kids ≤ n := by simp only [V.nodes] at hn; omega
  simp only [V.bulk] at hlen
  have hkb : kids.length + V.bulks kids ≤ 4294967295 := by omega
  obtain ⟨a, c, rfl, hg⟩ := hkids.values
  by_cases hne : kids = []
  · subst hne
    clear h hkids hg hlen hkb hnk
    simp only [List.length_nil]
    go_enter Tryd.func14, Tryd.ntmps14
    go_wp2
    refine bodyPost_ret (v := .agg #[.int .i64 k, .int .i64 m, .int .i64 e, .string ⟨s.toArray⟩, .slice none 0 0]) ?_ rfl ⟨[.int .i64 k, .int .i64 m, .int .i64 e, .string ⟨s.toArray⟩, .slice none 0 0], rfl, ?_, ?_⟩
    · simp [results, Tryd.results14, go_sem]
    · exact ((Below.refl _ _).alloc (Nat.le_refl _) _).alloc (by simp) _
    · exact V.own ⟨[], by simp, by simp, by simp [TreeC, V.ds]⟩
  · have hpos : 0 < kids.length := List.length_pos_iff.2 hne
    obtain ⟨_, _, b, o, rfl, hb, hcell⟩ := hg hne
    obtain ⟨mcs, hmcs, hmk⟩ := run_mk0 tyVi kids.length (by omega) (by decide)
    have HMC := Lib.hid hmcs
    obtain ⟨B, hBd⟩ : ∃ B, B = w.heap.size + 2 := ⟨_, rfl⟩
    obtain ⟨W1, hW1⟩ : ∃ W1, W1 = (((w.alloc (.cells #[.int .i64 k, .int .i64 m, .int .i64 e, .string ⟨s.toArray⟩, .slice (some ⟨b, o, none⟩) kids.length c] 26)).alloc (.cells #[.int .i64 0, .int .i64 0, .int .i64 0, .string ⟨#[]⟩, .slice none 0 0] 26)).alloc (.cells mcs 26)) := ⟨_, rfl⟩
    have HW := Lib.hid hW1
    have hAw : Below w.heap.size w W1 := by rw [hW1]; exact (((Below.refl _ _).alloc (Nat.le_refl _) _).alloc (by simp) _).alloc (by simp <;> omega) _
    have hsz1 : W1.heap.size = B + 1 := by rw [hW1, hBd]; simp
    have hst : OwnSl B W1 26 5 (.slice (some ⟨w.heap.size + 1 + 1, 0, none⟩) 0 kids.length) (V.ds (kids.take 0)) := by
      rw [hW1]
      have := OwnSl.made (B := B) (w := (w.alloc (.cells #[.int .i64 k, .int .i64 m, .int .i64 e, .string ⟨s.toArray⟩, .slice (some ⟨b, o, none⟩) kids.length c] 26)).alloc (.cells #[.int .i64 0, .int .i64 0, .int .i64 0, .string ⟨#[]⟩, .slice none 0 0] 26)) (e := 26) (n := 5) (cs := mcs) (cap := kids.length) (by rw [hBd]; simp) (by unfold maxLen; omega) HMC.out
      simpa [V.ds] using this
    have HST := Lib.hid hst
    have KB : Hid (∀ W, Below B W1 W → (W.cell? ⟨w.heap.size, 0, none⟩ = some (.int .i64 k) ∧ W.cell? ⟨w.heap.size, 1, none⟩ = some (.int .i64 m) ∧ W.cell? ⟨w.heap.size, 2, none⟩ = some (.int .i64 e) ∧ W.cell? ⟨w.heap.size, 3, none⟩ = some (.string ⟨s.toArray⟩) ∧ W.cell? ⟨w.heap.size, 4, none⟩ = some (.slice (some ⟨b, o, none⟩) kids.length c)) ∧
        (∀ i, W.frozen? ⟨w.heap.size, i, none⟩ = false) ∧ (∀ i, W.frozen? ⟨w.heap.size + 1, i, none⟩ = false) ∧ (W.cell? ⟨w.heap.size + 1, 0, none⟩ = some (.int .i64 0) ∧ W.cell? ⟨w.heap.size + 1, 1, none⟩ = some (.int .i64 0) ∧ W.cell? ⟨w.heap.size + 1, 2, none⟩ = some (.int .i64 0) ∧ W.cell? ⟨w.heap.size + 1, 3, none⟩ = some (.string ⟨#[]⟩) ∧ W.cell? ⟨w.heap.size + 1, 4, none⟩ = some (.slice none 0 0))) := by
      intro W hb'
      have g1 : w.heap.size < B := by omega
      have g2 : w.heap.size + 1 < B := by omega
      have hc : ∀ b o, b < B → W.cell? ⟨b, o, none⟩ = W1.cell? ⟨b, o, none⟩ := fun b o h => hb'.cell (p := ⟨b, o, none⟩) h
      have hf : ∀ b o, b < B → W.frozen? ⟨b, o, none⟩ = W1.frozen? ⟨b, o, none⟩ := fun b o h => hb'.frozen (p := ⟨b, o, none⟩) h
      simp only [hc _ _ g1, hc _ _ g2, hf _ _ g1, hf _ _ g2]
      subst hW1; simp [go_sem]
    have hk0 : ((kids.length : Int) == 0) = false := by simp; omega
    have hB0 : w.heap.size + 1 < B := by omega
    have hB2 : B ≤ w.heap.size + 2 := by omega
    clear hW1 hmcs h hst hg hpos hne hBd
    have HCELL := Lib.hid hcell
    clear hcell
    go_enter Tryd.func14, Tryd.ntmps14
    go_wp2_with fail
    rw [← HW.out]
    go_loopw [3, 19] (fun v i wr => ∃ j : Nat, j ≤ kids.length ∧ i = .int .i64 j ∧ OwnSl B wr 26 5 v (V.ds (kids.take j)) ∧ Below B W1 wr) (fun _ i _ => kids.length - (intOf i).toNat)
    case atStart => exact ⟨0, Nat.zero_le _, rfl, HST.out, Below.refl _ _⟩
    case round =>
      obtain ⟨j, hj, rfl, hown, hbel⟩ := hrel
      obtain ⟨av, cv, rfl⟩ := hown.form
      have hdl : (V.ds (kids.take j)).length = j := by rw [V.ds_length, List.length_take]; omega
      rw [hdl] at hown ⊢
      obtain ⟨⟨p0, p1, p2, p3, p4⟩, f1, f2, ⟨q0, q1, q2, q3, q4⟩⟩ := KB.out _ hbel
      have hsz := hbel.size
      by_cases hlt : j < kids.length
      · obtain ⟨v0, v1, v2, v3, v4, hr, d0, d1, d2, d3, d4⟩ := HCELL.out j hlt
        obtain ⟨k1, k2, k3, s4, a5, n5, m5, hcs⟩ := V.form hr
        simp only [List.cons.injEq, and_true] at hcs
        obtain ⟨rfl, rfl, rfl, rfl, rfl⟩ := hcs
        have hbw : Below w.heap.size w wr := hAw.trans (hbel.mono (by omega))
        have hbc := (bcell hbw).1
        rw [← hbc _ _ hb] at d0 d1 d2 d3 d4
        have i1 : (0 : Int) ≤ j := by omega
        have i2 : (j : Int) < kids.length := by omega
        have hn1 := V.nodes_get kids j hlt
        have hb1 := V.bulk_getB hkb j hlt
        have hal : Below wr.heap.size wr (wr.alloc (.cells #[.int .i64 k1, .int .i64 k2, .int .i64 k3, .string ⟨s4.toArray⟩, .slice a5 n5 m5] 26)) := (Below.refl _ _).alloc (Nat.le_refl _) _
        have HC := Lib.hid (hA kids[j] _ _ (Nat.le_trans hn1 hnk) ((hr.below hbw).below hal) hb1)
        have HS := Lib.hid (V.ds_take kids j hlt)
        clear hbc hr hn1 hb1 p0 p1 p2 p3 p4 f1 f2 q0 q1 q2 q3 q4
        go_wp2_with (first | (go_at_call 14; refine HC.out.mono ?_; rintro e1 w1 ⟨cs', rfl, hb1, hox⟩; obtain ⟨x0, x1, x2, x3, xa, xl, xc, rfl⟩ := V.form hox.rd) | (at_builtin; refine wp_appD tyVi rfl rfl B hown (below2 hal hb1 (Nat.le_refl _)) (by omega) (Owns.of1 (hox.mono hal.size)) (by intro d hd; simp at hd; subst hd; exact V.width _) (by simp) (V.cells_one hox.rd) rfl 1 rfl (by rw [hdl]; simp; omega) (by decide) ?_))
        intro g cap w2 hown2 hbel2
        try rw [hdl] at hown2
        go_wp2
        go_roundw
        case rel => exact ⟨j + 1, by omega, by go_num, by rw [HS.out]; simpa using hown2, hbel.trans hbel2⟩
        case measure => simp [intOf]; omega
      · obtain rfl : j = kids.length := by omega
        rw [List.take_length] at hown
        have fz1 := f1 4
        have hz1 : w.heap.size + 1 < wr.heap.size := by omega
        have hz0 : w.heap.size < wr.heap.size := by omega
        go_wp2
        refine bodyPost_ret (v := .agg #[.int .i64 k, .int .i64 m, .int .i64 e, .string ⟨s.toArray⟩, .slice av kids.length cv]) ?_ rfl ⟨[.int .i64 k, .int .i64 m, .int .i64 e, .string ⟨s.toArray⟩, .slice av kids.length cv], rfl, ?_, ?_⟩
        · simp [results, Tryd.results14, go_sem, q0, q1, q2, q3, q4]
        · iterate 6 (refine Below.setCell ?_ (by simp <;> omega) _)
          exact hAw.trans (hbel.mono (by omega))
        · refine Own.mono (B := B) ?_ (by omega)
          iterate 6 (refine Own.setCell ?_ (by simp <;> omega) _)
          exact V.own (hown.own (by decide))
theorem Ow_all : ∀ n, OwA n
  | 0 => fun x cs w hn => absurd (V.nodes_pos x) (by omega)
  | n + 1 => OwA_of (Ow_all n)
theorem own_any (x : V) (cs : List Value) (w : World) (h : Rd w x.d cs) (hs : x.bulk ≤ 4294967295) :
    Calls Tryd.prog 14 #[.agg cs.toArray] w fun e w' => ∃ cs', e = .returned (.agg cs'.toArray) ∧ Below w.heap.size w w' ∧ Own w.heap.size w' x.d cs' :=
  Ow_all x.nodes x cs w (Nat.le_refl _) h hs
end Go.Proofs.YthngfihpnfoppaaDoor

namespace Go.Proofs.YthngfihpnfoppaaDoor
open Go.RowKit

theorem tyBh : ElemTy Tryd.prog 22 5 1 1 := ElemTy.mk' (z := .int .u8 0) Tryd.underlying22 (by kernel_rfl) rfl (by decide)
theorem andF : ∀ q : Fin 256, bits .and .u8 ((q.val : Nat) : Int) 15 = ((q.val % 16 : Nat) : Int) := by decide +kernel
set_option maxHeartbeats 1000000 in
set_option maxRecDepth 10000 in
theorem putHex_spec (s : List UInt8) (w : World) (hl : s.length ≤ 1073741824) :
    Calls Tryd.prog 35 #[.string ⟨s.toArray⟩] w fun e w' => e = .returned (.string ⟨(hexL s).toArray⟩) ∧ Below w.heap.size w w' := by
  go_enter Tryd.func35, Tryd.ntmps35
  go_wp2
  go_loopw [3, 4] (fun v i wr => ∃ j : Nat, j ≤ s.length ∧ i = .int .i64 j ∧ OwnB wr w.heap.size 5 v (hexL (s.take j)) ∧ v ≠ .slice none 0 0 ∧ Below w.heap.size w wr) (fun _ i _ => s.length - (intOf i).toNat)
  case atStart => exact ⟨0, Nat.zero_le _, rfl, OwnB.start, by simp, (Below.refl _ _).alloc (Nat.le_refl _) _⟩
  case round =>
    obtain ⟨j, hj, rfl, hown, hvn, hbel⟩ := hrel
    obtain ⟨g, c, rfl, hg⟩ := hown.form' hvn
    obtain ⟨hx, hhx⟩ : ∃ hx, hexL (s.take j) = hx := ⟨_, rfl⟩
    have hhl : hx.length ≤ 2147483648 := by rw [← hhx, hexL_length, List.length_take]; omega
    rw [hhx] at hown ⊢
    by_cases hlt : j < s.length
    · have i1 : (0 : Int) ≤ j := by omega
      have i2 : (j : Int) < s.length := by omega
      have hb8 := s[j].toNat_lt
      obtain ⟨q, hq⟩ : ∃ q : Nat, s[j].toNat = q := ⟨_, rfl⟩
      have hq256 : q < 256 := by omega
      obtain ⟨a, ha⟩ : ∃ a : Nat, q / 16 = a := ⟨_, rfl⟩
      obtain ⟨r, hr⟩ : ∃ r : Nat, q % 16 = r := ⟨_, rfl⟩
      have a16 : a < 16 := by omega
      have r16 : r < 16 := by omega
      have HS := Lib.hid (show hexL (s.take (j + 1)) = hx ++ [hexTab[a]'a16, hexTab[r]'r16] by
        rw [hexL_take s j hlt, hhx, hq, ha, hr]; unfold hexd
        rw [List.getD_eq_getElem?_getD, List.getD_eq_getElem?_getD, List.getElem?_eq_getElem (show a < hexTab.length from a16), List.getElem?_eq_getElem (show r < hexTab.length from r16)]; rfl)
      have w1 : IntKind.u8.wrap ((q : Int) / 16) = (a : Int) := by rw [IntKind.wrap_u8]; omega
      have w2 : (q : Int) % 16 = (r : Int) := by omega
      have w5 : Int.tmod (q : Int) 16 = (r : Int) := by rw [Int.tmod_eq_emod_of_nonneg (by omega)]; exact w2
      have w6 : Int.tdiv (q : Int) 16 = (a : Int) := by rw [Int.tdiv_eq_ediv_of_nonneg (by omega)]; omega
      have w7 : IntKind.u8.wrap (a : Int) = (a : Int) := by rw [IntKind.wrap_u8]; omega
      have w8 : IntKind.u8.wrap (r : Int) = (r : Int) := by rw [IntKind.wrap_u8]; omega
      have w3 : (a : Int) < 16 := by omega
      have w4 : (r : Int) < 16 := by omega
      have hzz := hbel.size
      have hod : OwnB wr.drew w.heap.size 5 (.slice (some ⟨g, 0, none⟩) hx.length c) hx := hown
      have hbd : Below w.heap.size w wr.drew := hbel.drew
      clear ha hr hhx hb8 hq256 hown hbel
      go_wp2_with fail
      go_region_held3 (fun W => True) (trivial) ((refine step_appB (r := [hexTab[a]'a16, hexTab[r]'r16]) tyBh rfl rfl w.heap.size (hod.alloc _) rfl ⟨wr.heap.size, 0, none⟩ 2 rfl (lit_cells (w := wr.drew) (news := [.int .u8 ((hexTab[a]'a16).toNat : Nat), .int .u8 ((hexTab[r]'r16).toNat : Nat)])) (by simp) (by simp; omega) (by simp; omega) ?_; intro v' w2 hown2 hgr hvn2))
      all_goals
        have hbel2 := OwnB.below (hod.alloc _) (hbd.alloc (by simp; omega) _) hgr (by simp; omega)
        go_wp2
        go_roundw
        case rel => exact ⟨j + 1, by omega, by go_num, by rw [HS.out]; exact hown2, hvn2, hbel2⟩
        case measure => simp [intOf]; omega
    · obtain rfl : j = s.length := by omega
      have hres := hhx
      rw [List.take_length] at hres
      subst hres
      have hcv := hown.str (P := Tryd.prog) 22 Tryd.underlying22 Tryd.underlying5
      go_wp2
      go_ret
      exact ⟨rfl, hbel⟩
set_option maxHeartbeats 1000000 in
set_option maxRecDepth 10000 in
theorem putHex_impl (s : List UInt8) (w : World) (hl : s.length ≤ 1073741824) :
    Calls Tryd.prog 30 #[.string ⟨s.toArray⟩] w fun e w' => e = .returned (.string ⟨(hexL s).toArray⟩) ∧ Below w.heap.size w w' := by
  obtain ⟨m, hm⟩ : ∃ m : Nat, m = 2 * s.length := ⟨_, rfl⟩
  obtain ⟨mcs, hmcs, hmk⟩ := run_mk0 tyBh m (by omega) (by decide)
  have HMC := Lib.hid hmcs
  have hw3 : (2 * (s.length : Int)) = (m : Int) := by omega
  have hm9 : m ≤ 2147483648 := by omega
  clear hm
  clear hmcs
  go_enter Tryd.func30, Tryd.ntmps30
  go_wp2
  go_loopw [3, 11] (fun v i wr => ∃ j : Nat, j ≤ s.length ∧ i = .int .i64 j ∧ OwnB wr w.heap.size 5 v (hexL (s.take j)) ∧ v ≠ .slice none 0 0 ∧ Below w.heap.size w wr) (fun _ i _ => s.length - (intOf i).toNat)
  case atStart => exact ⟨0, Nat.zero_le _, rfl, World.ownsRow_made w mcs m (Nat.le_refl _) (by unfold maxLen; omega) HMC.out, by simp, (Below.refl _ _).alloc (Nat.le_refl _) _⟩
  case round =>
    obtain ⟨j, hj, rfl, hown, hvn, hbel⟩ := hrel
    obtain ⟨g, c, rfl, hg⟩ := hown.form' hvn
    obtain ⟨hx, hhx⟩ : ∃ hx, hexL (s.take j) = hx := ⟨_, rfl⟩
    have hhl : hx.length ≤ 2147483648 := by rw [← hhx, hexL_length, List.length_take]; omega
    rw [hhx] at hown ⊢
    by_cases hlt : j < s.length
    · have i1 : (0 : Int) ≤ j := by omega
      have i2 : (j : Int) < s.length := by omega
      have hb8 := s[j].toNat_lt
      obtain ⟨q, hq⟩ : ∃ q : Nat, s[j].toNat = q := ⟨_, rfl⟩
      have hq256 : q < 256 := by omega
      obtain ⟨a, ha⟩ : ∃ a : Nat, q / 16 = a := ⟨_, rfl⟩
      obtain ⟨r, hr⟩ : ∃ r : Nat, q % 16 = r := ⟨_, rfl⟩
      have a16 : a < 16 := by omega
      have r16 : r < 16 := by omega
      have HS := Lib.hid (show hexL (s.take (j + 1)) = hx ++ [hexTab[a]'a16, hexTab[r]'r16] by
        rw [hexL_take s j hlt, hhx, hq, ha, hr]; unfold hexd
        rw [List.getD_eq_getElem?_getD, List.getD_eq_getElem?_getD, List.getElem?_eq_getElem (show a < hexTab.length from a16), List.getElem?_eq_getElem (show r < hexTab.length from r16)]; rfl)
      have w1 : IntKind.u8.wrap ((q : Int) / 16) = (a : Int) := by rw [IntKind.wrap_u8]; omega
      have w2 : (q : Int) % 16 = (r : Int) := by omega
      have w5 : Int.tmod (q : Int) 16 = (r : Int) := by rw [Int.tmod_eq_emod_of_nonneg (by omega)]; exact w2
      have w6 : Int.tdiv (q : Int) 16 = (a : Int) := by rw [Int.tdiv_eq_ediv_of_nonneg (by omega)]; omega
      have w7 : IntKind.u8.wrap (a : Int) = (a : Int) := by rw [IntKind.wrap_u8]; omega
      have w8 : IntKind.u8.wrap (r : Int) = (r : Int) := by rw [IntKind.wrap_u8]; omega
      have w9 : (q : Int) / 16 = (a : Int) := by omega
      have w10 : bits .and .u8 (q : Int) 15 = (r : Int) := by rw [andF ⟨q, hq256⟩, ← hr]
      have w3 : (a : Int) < 16 := by omega
      have w11 : (0 : Int) ≤ a := by omega
      have w12 : (0 : Int) ≤ r := by omega
      have w4 : (r : Int) < 16 := by omega
      have hzz := hbel.size
      have hod : OwnB wr.drew w.heap.size 5 (.slice (some ⟨g, 0, none⟩) hx.length c) hx := hown
      have hbd : Below w.heap.size w wr.drew := hbel.drew
      clear ha hr hhx hb8 hq256 hown hbel
      go_wp2_with fail
      go_region_held3 (fun W => True) (trivial) ((refine step_appB (r := [hexTab[a]'a16, hexTab[r]'r16]) tyBh rfl rfl w.heap.size (hod.alloc _) rfl ⟨wr.heap.size, 0, none⟩ 2 rfl (lit_cells (w := wr.drew) (news := [.int .u8 ((hexTab[a]'a16).toNat : Nat), .int .u8 ((hexTab[r]'r16).toNat : Nat)])) (by simp) (by simp; omega) (by simp; omega) ?_; intro v' w2 hown2 hgr hvn2))
      all_goals
        have hbel2 := OwnB.below (hod.alloc _) (hbd.alloc (by simp; omega) _) hgr (by simp; omega)
        go_wp2
        go_roundw
        case rel => exact ⟨j + 1, by omega, by go_num, by rw [HS.out]; exact hown2, hvn2, hbel2⟩
        case measure => simp [intOf]; omega
    · obtain rfl : j = s.length := by omega
      have hres := hhx
      rw [List.take_length] at hres
      subst hres
      have hcv := hown.str (P := Tryd.prog) 22 Tryd.underlying22 Tryd.underlying5
      go_wp2
      go_ret
      exact ⟨rfl, hbel⟩
end Go.Proofs.YthngfihpnfoppaaDoor

namespace Go.Proofs.YthngfihpnfoppaaDoor
open Go.RowKit

def decOn (u : Nat) (l : List UInt8) : List UInt8 := if u = 0 then l else Lib.decDigits u ++ l
theorem decOn_step {u : Nat} (h : u ≠ 0) (l : List UInt8) : decOn (u / 10) (UInt8.ofNat (48 + u % 10) :: l) = decOn u l := by
  unfold decOn
  rw [if_neg h]
  by_cases h1 : u < 10
  · rw [if_pos (by omega), Lib.decDigits_one h1, Nat.mod_eq_of_lt h1]; rfl
  · rw [if_neg (by omega)]
    conv => rhs; rw [Lib.decDigits, dif_neg h1]
    simp
def digs : List UInt8 := [48, 49, 50, 51, 52, 53, 54, 55, 56, 57]
theorem digs_piece : ∀ d : Fin 10, (digs.drop d.val).take 1 = [UInt8.ofNat (48 + d.val)] := by decide
theorem digs_at {d : Nat} (h : d < 10) : (([48, 49, 50, 51, 52, 53, 54, 55, 56, 57] : List UInt8).drop d).take 1 = [UInt8.ofNat (48 + d)] := digs_piece ⟨d, h⟩
theorem tdivAbs (m : Int) : (Int.tdiv m 10).natAbs = m.natAbs / 10 := by rw [Int.natAbs_tdiv]; rfl
theorem tmodAbs (m : Int) : (Int.tmod m 10).natAbs = m.natAbs % 10 := by rw [Int.natAbs_tmod]; rfl
theorem decDigits_len20 {u : Nat} (h : u ≤ 9223372036854775808) : (Lib.decDigits u).length ≤ 20 := by rw [Lib.decDigits_length]; exact Lib.nDigits_le20 u (by omega)
end Go.Proofs.YthngfihpnfoppaaDoor

namespace Go.Proofs
open Go.Shelf
def Tryd.lays129_ren : Go.Shelf.Ren := ⟨fun | 129 => 73 | n => n, fun | 53 => 83 | 3 => 3 | 4 => 4 | 46 => 64 | 5 => 5 | 9 => 9 | n => n, fun | n => n⟩
theorem Tryd.lays129 : Go.Proofs.Lays.n129 Tryd.prog Tryd.lays129_ren := {
  mixed := by kernel_rfl
  f129 := Tryd.func73.trans (congrArg some (by kernel_rfl))
  t3 := Tryd.underlying3
  a3 := Tryd.isAgg3
  z3 := Tryd.sizeOf3
  v3 := Tryd.zeroValue3
  t4 := Tryd.underlying4
  a4 := Tryd.isAgg4
  z4 := Tryd.sizeOf4
  v4 := Tryd.zeroValue4
  t5 := Tryd.underlying5
  a5 := Tryd.isAgg5
  z5 := Tryd.sizeOf5
  v5 := Tryd.zeroValue5
  t9 := Tryd.underlying9
  a9 := Tryd.isAgg9
  z9 := Tryd.sizeOf9
  v9 := Tryd.zeroValue9
  t46 := Tryd.underlying64
  a46 := Tryd.isAgg64
  z46 := Tryd.sizeOf64
  v46 := Tryd.zeroValue64
  t53 := Tryd.underlying83
  a53 := Tryd.isAgg83
  z53 := Tryd.sizeOf83
  v53 := Tryd.zeroValue83 }
/-- bits.Len64: "Len64 returns the minimum number of bits required to represent x; the result is 0 for x == 0.": IT RETURNS 'Lib.bitLen x'; the world is as it was. ('h0', 'h1': x is a uint64.) (LAID: no walk: one application.) -/
theorem Tryd.bits_Len64 (x : Int) (w : World) (h0 : 0 ≤ x) (h1 : x ≤ 18446744073709551615) :
    Calls Tryd.prog 73 #[.int .u64 x] w fun e w' => e = .returned (.int .i64 (Lib.bitLen x.toNat)) ∧ w' = w := Any.bits_Len64 Tryd.lays129 x w h0 h1
def Tryd.lays317_ren : Go.Shelf.Ren := ⟨fun | 317 => 72 | n => n, fun | 3 => 3 | 46 => 64 | n => n, fun | n => n⟩
theorem Tryd.lays317 : Go.Proofs.Lays.n317 Tryd.prog Tryd.lays317_ren := {
  mixed := by kernel_rfl
  f317 := Tryd.func72.trans (congrArg some (by kernel_rfl))
  t3 := Tryd.underlying3
  a3 := Tryd.isAgg3
  z3 := Tryd.sizeOf3
  v3 := Tryd.zeroValue3
  t46 := Tryd.underlying64
  a46 := Tryd.isAgg64
  z46 := Tryd.sizeOf64
  v46 := Tryd.zeroValue64 }
open Go.Lib in
/-- internal/strconv.log10Pow2: "log10Pow2(x) returns ⌊log₁₀ 2**x⌋ = ⌊x * log₁₀ 2⌋.": '(x * 78913) >> 18', at an x up to 64 (a length in bits). The world is as it was. (LAID: no walk: one application.) -/
theorem Tryd.internal_strconv_log10Pow2 (x : Nat) (h : x ≤ 64) (w : World) :
    Calls Tryd.prog 72 #[.int .i64 x] w fun e w' => e = .returned (.int .i64 (Lib.l10 x)) ∧ w' = w := Any.internal_strconv_log10Pow2 Tryd.lays317 x h w
def Tryd.lays318_ren : Go.Shelf.Ren := ⟨fun | 318 => 74 | n => n, fun | 3 => 3 | 4 => 4 | n => n, fun | n => n⟩
theorem Tryd.lays318 : Go.Proofs.Lays.n318 Tryd.prog Tryd.lays318_ren := {
  mixed := by kernel_rfl
  f318 := Tryd.func74.trans (congrArg some (by kernel_rfl))
  t3 := Tryd.underlying3
  a3 := Tryd.isAgg3
  z3 := Tryd.sizeOf3
  v3 := Tryd.zeroValue3
  t4 := Tryd.underlying4
  a4 := Tryd.isAgg4
  z4 := Tryd.sizeOf4
  v4 := Tryd.zeroValue4 }
open Go.Lib in
/-- internal/strconv.bool2: "bool2 converts b to an integer: 1 for true, 0 for false." The world is as it was. (LAID: no walk: one application.) -/
theorem Tryd.internal_strconv_bool2_int (b : Bool) (w : World) :
    Calls Tryd.prog 74 #[.bool b] w fun e w' => e = .returned (.int .i64 (if b then 1 else 0)) ∧ w' = w := Any.internal_strconv_bool2_int Tryd.lays318 b w
def Tryd.lays283_ren : Go.Shelf.Ren := ⟨fun | 283 => 66 | n => n, fun | 3 => 3 | 9 => 9 | 4 => 4 | n => n, fun | n => n⟩
theorem Tryd.lays283 : Go.Proofs.Lays.n283 Tryd.prog Tryd.lays283_ren := {
  mixed := by kernel_rfl
  f283 := Tryd.func66.trans (congrArg some (by kernel_rfl))
  t3 := Tryd.underlying3
  a3 := Tryd.isAgg3
  z3 := Tryd.sizeOf3
  v3 := Tryd.zeroValue3
  t4 := Tryd.underlying4
  a4 := Tryd.isAgg4
  z4 := Tryd.sizeOf4
  v4 := Tryd.zeroValue4
  t9 := Tryd.underlying9
  a9 := Tryd.isAgg9
  z9 := Tryd.sizeOf9
  v9 := Tryd.zeroValue9 }
open Go.Lib in
/-- internal/strconv.small: "small returns the string for an i with 0 <= i < nSmalls.": i's decimal numeral. The world is as it was. (LAID: no walk: one application.) -/
theorem Tryd.internal_strconv_small (i : Nat) (h : i < 100) (w : World) :
    Calls Tryd.prog 66 #[.int .i64 i] w fun e w' => e = .returned (.string ⟨(Lib.decDigits i).toArray⟩) ∧ w' = w := Any.internal_strconv_small Tryd.lays283 i h w
def Tryd.laysM284_ren : Go.Shelf.Ren := ⟨fun | 284 => 67 | 129 => 73 | 317 => 72 | 318 => 74 | n => n, fun | 53 => 83 | 3 => 3 | 212 => 91 | 0 => 0 | 4 => 4 | 46 => 64 | 5 => 5 | 9 => 9 | n => n, fun | 17 => 2 | n => n⟩
theorem Tryd.laysM284 : Go.Proofs.LaysM.n284 Tryd.prog Tryd.laysM284_ren := {
  mixed := by kernel_rfl
  f129 := Tryd.func73.trans (congrArg some (by kernel_rfl))
  f284 := Tryd.func67.trans (congrArg some (by kernel_rfl))
  f317 := Tryd.func72.trans (congrArg some (by kernel_rfl))
  f318 := Tryd.func74.trans (congrArg some (by kernel_rfl))
  t0 := Tryd.underlying0
  a0 := Tryd.isAgg0
  z0 := Tryd.sizeOf0
  v0 := Tryd.zeroValue0
  t3 := Tryd.underlying3
  a3 := Tryd.isAgg3
  z3 := Tryd.sizeOf3
  v3 := Tryd.zeroValue3
  t4 := Tryd.underlying4
  a4 := Tryd.isAgg4
  z4 := Tryd.sizeOf4
  v4 := Tryd.zeroValue4
  t5 := Tryd.underlying5
  a5 := Tryd.isAgg5
  z5 := Tryd.sizeOf5
  v5 := Tryd.zeroValue5
  t9 := Tryd.underlying9
  a9 := Tryd.isAgg9
  z9 := Tryd.sizeOf9
  v9 := Tryd.zeroValue9
  t46 := Tryd.underlying64
  a46 := Tryd.isAgg64
  z46 := Tryd.sizeOf64
  v46 := Tryd.zeroValue64
  t53 := Tryd.underlying83
  a53 := Tryd.isAgg83
  z53 := Tryd.sizeOf83
  v53 := Tryd.zeroValue83
  t212 := Tryd.underlying91
  a212 := Tryd.isAgg91
  z212 := Tryd.sizeOf91
  v212 := Tryd.zeroValue91
  g17 := by kernel_rfl
  i0 := by kernel_rfl
  i3 := by kernel_rfl
  i4 := by kernel_rfl
  i5 := by kernel_rfl
  i9 := by kernel_rfl
  i46 := by kernel_rfl
  i53 := by kernel_rfl
  i212 := by kernel_rfl
  m17 := by kernel_rfl }
open Go.Lib in
/-- internal/strconv.numDigits, at a d that is not 0: THE NUMBER OF d's DECIMAL DIGITS. The world is as it was. (LAID: no walk: one application.) -/
theorem Tryd.internal_strconv_numDigits (u : Nat) (h1 : 1 ≤ u) (h2 : u < 18446744073709551616) (w : World) (htab : Lib.TabIs Tryd.prog w "internal/strconv.uint64pow10" .u64 Lib.pow10Tab) :
    Calls Tryd.prog 67 #[.int .u64 u] w fun e w' => e = .returned (.int .i64 (Lib.nDigits u)) ∧ w' = w := Any.internal_strconv_numDigits Tryd.laysM284 u h1 h2 w htab
def Tryd.lays285_ren : Go.Shelf.Ren := ⟨fun | 285 => 68 | n => n, fun | 37 => 22 | 53 => 83 | 3 => 3 | 4 => 4 | 51 => 92 | 9 => 9 | 5 => 5 | 0 => 0 | n => n, fun | n => n⟩
theorem Tryd.lays285 : Go.Proofs.Lays.n285 Tryd.prog Tryd.lays285_ren := {
  mixed := by kernel_rfl
  f285 := Tryd.func68.trans (congrArg some (by kernel_rfl))
  t0 := Tryd.underlying0
  a0 := Tryd.isAgg0
  z0 := Tryd.sizeOf0
  v0 := Tryd.zeroValue0
  t3 := Tryd.underlying3
  a3 := Tryd.isAgg3
  z3 := Tryd.sizeOf3
  v3 := Tryd.zeroValue3
  t4 := Tryd.underlying4
  a4 := Tryd.isAgg4
  z4 := Tryd.sizeOf4
  v4 := Tryd.zeroValue4
  t5 := Tryd.underlying5
  a5 := Tryd.isAgg5
  z5 := Tryd.sizeOf5
  v5 := Tryd.zeroValue5
  t9 := Tryd.underlying9
  a9 := Tryd.isAgg9
  z9 := Tryd.sizeOf9
  v9 := Tryd.zeroValue9
  t37 := Tryd.underlying22
  a37 := Tryd.isAgg22
  z37 := Tryd.sizeOf22
  v37 := Tryd.zeroValue22
  t51 := Tryd.underlying92
  a51 := Tryd.isAgg92
  z51 := Tryd.sizeOf92
  v51 := Tryd.zeroValue92
  t53 := Tryd.underlying83
  a53 := Tryd.isAgg83
  z53 := Tryd.sizeOf83
  v53 := Tryd.zeroValue83 }
open Go.RowKit Go.Sort Go.Lib in
/-- internal/strconv.formatBase10: "formatBase10 formats the decimal representation of u into a. The caller is responsible for ensuring that a is big enough to hold u. If a is too big, leading zeros will be filled in as needed.": THE ROW HOLDS u's DIGITS ('FmtInv .. 0 ..': every place t holds 'dg u (len - 1 - t)'); all else is as it was but for the count of draws. (LAID: no walk: one application.) -/
theorem Tryd.internal_strconv_formatBase10 (blk off cap : Nat) (u : Nat) (d : Array UInt8) (w : World) (hH : Holds (fun (b : UInt8) => Value.int .u8 (b.toNat : Int)) w blk off d) (hu : u < 10 ^ d.size) (hu64 : u < 18446744073709551616) (hsz : d.size < 4611686018427387904) :
    Calls Tryd.prog 68 #[.slice (some ⟨blk, off, none⟩) d.size cap, .int .u64 u] w fun e w' =>
      e = .returned (.tuple #[]) ∧ ∃ (n v' : Nat) (dk : Array UInt8), w' = (putRow (fun (b : UInt8) => Value.int .u8 (b.toNat : Int)) w blk off dk).drewN n ∧ FmtInv d.size u 0 v' dk := Any.internal_strconv_formatBase10 Tryd.lays285 blk off cap u d w hH hu hu64 hsz
def Tryd.laysM246_ren : Go.Shelf.Ren := ⟨fun | 246 => 63 | 283 => 66 | 284 => 67 | 285 => 68 | 286 => 69 | 129 => 73 | 317 => 72 | 318 => 74 | 319 => 75 | 320 => 76 | 337 => 77 | 338 => 78 | n => n, fun | 2 => 2 | 3 => 3 | 9 => 9 | 4 => 4 | 171 => 82 | 0 => 0 | 53 => 83 | 37 => 22 | 5 => 5 | 173 => 86 | 212 => 91 | 51 => 92 | 20 => 20 | 213 => 93 | 46 => 64 | 232 => 97 | 233 => 98 | n => n, fun | 17 => 2 | 18 => 3 | 19 => 4 | n => n⟩
theorem Tryd.laysM246 : Go.Proofs.LaysM.n246 Tryd.prog Tryd.laysM246_ren := {
  mixed := by kernel_rfl
  f129 := Tryd.func73.trans (congrArg some (by kernel_rfl))
  f246 := Tryd.func63.trans (congrArg some (by kernel_rfl))
  f283 := Tryd.func66.trans (congrArg some (by kernel_rfl))
  f284 := Tryd.func67.trans (congrArg some (by kernel_rfl))
  f285 := Tryd.func68.trans (congrArg some (by kernel_rfl))
  f286 := Tryd.func69.trans (congrArg some (by kernel_rfl))
  f317 := Tryd.func72.trans (congrArg some (by kernel_rfl))
  f318 := Tryd.func74.trans (congrArg some (by kernel_rfl))
  f319 := Tryd.func75.trans (congrArg some (by kernel_rfl))
  f320 := Tryd.func76.trans (congrArg some (by kernel_rfl))
  f337 := Tryd.func77.trans (congrArg some (by kernel_rfl))
  f338 := Tryd.func78.trans (congrArg some (by kernel_rfl))
  t0 := Tryd.underlying0
  a0 := Tryd.isAgg0
  z0 := Tryd.sizeOf0
  v0 := Tryd.zeroValue0
  t2 := Tryd.underlying2
  a2 := Tryd.isAgg2
  z2 := Tryd.sizeOf2
  v2 := Tryd.zeroValue2
  t3 := Tryd.underlying3
  a3 := Tryd.isAgg3
  z3 := Tryd.sizeOf3
  v3 := Tryd.zeroValue3
  t4 := Tryd.underlying4
  a4 := Tryd.isAgg4
  z4 := Tryd.sizeOf4
  v4 := Tryd.zeroValue4
  t5 := Tryd.underlying5
  a5 := Tryd.isAgg5
  z5 := Tryd.sizeOf5
  v5 := Tryd.zeroValue5
  t9 := Tryd.underlying9
  a9 := Tryd.isAgg9
  z9 := Tryd.sizeOf9
  v9 := Tryd.zeroValue9
  t20 := Tryd.underlying20
  a20 := Tryd.isAgg20
  z20 := Tryd.sizeOf20
  v20 := Tryd.zeroValue20
  t37 := Tryd.underlying22
  a37 := Tryd.isAgg22
  z37 := Tryd.sizeOf22
  v37 := Tryd.zeroValue22
  t46 := Tryd.underlying64
  a46 := Tryd.isAgg64
  z46 := Tryd.sizeOf64
  v46 := Tryd.zeroValue64
  t51 := Tryd.underlying92
  a51 := Tryd.isAgg92
  z51 := Tryd.sizeOf92
  v51 := Tryd.zeroValue92
  t53 := Tryd.underlying83
  a53 := Tryd.isAgg83
  z53 := Tryd.sizeOf83
  v53 := Tryd.zeroValue83
  t171 := Tryd.underlying82
  a171 := Tryd.isAgg82
  z171 := Tryd.sizeOf82
  v171 := Tryd.zeroValue82
  t173 := Tryd.underlying86
  a173 := Tryd.isAgg86
  z173 := Tryd.sizeOf86
  v173 := Tryd.zeroValue86
  t212 := Tryd.underlying91
  a212 := Tryd.isAgg91
  z212 := Tryd.sizeOf91
  v212 := Tryd.zeroValue91
  t213 := Tryd.underlying93
  a213 := Tryd.isAgg93
  z213 := Tryd.sizeOf93
  t232 := Tryd.underlying97
  a232 := Tryd.isAgg97
  z232 := Tryd.sizeOf97
  v232 := Tryd.zeroValue97
  t233 := Tryd.underlying98
  a233 := Tryd.isAgg98
  z233 := Tryd.sizeOf98
  v233 := Tryd.zeroValue98
  g17 := by kernel_rfl
  g18 := by kernel_rfl
  g19 := by kernel_rfl
  i0 := by kernel_rfl
  i2 := by kernel_rfl
  i3 := by kernel_rfl
  i4 := by kernel_rfl
  i5 := by kernel_rfl
  i9 := by kernel_rfl
  i20 := by kernel_rfl
  i37 := by kernel_rfl
  i46 := by kernel_rfl
  i51 := by kernel_rfl
  i53 := by kernel_rfl
  i171 := by kernel_rfl
  i173 := by kernel_rfl
  i212 := by kernel_rfl
  i232 := by kernel_rfl
  i233 := by kernel_rfl
  m17 := by kernel_rfl
  m18 := by kernel_rfl
  m19 := by kernel_rfl }
open Go.RowKit Go.Sort Go.Lib in
/-- internal/strconv.FormatInt: "FormatInt returns the string representation of i in the given base": AT BASE 10: i's decimal numeral, for every int64. The world behind the call: the world before it, new blocks behind the heap, draws. (LAID: no walk: one application.) -/
theorem Tryd.internal_strconv_FormatInt_10 (n : Int) (h0 : -9223372036854775808 ≤ n) (h1 : n ≤ 9223372036854775807) (w : World) (htab : Lib.TabIs Tryd.prog w "internal/strconv.uint64pow10" .u64 Lib.pow10Tab) :
    Calls Tryd.prog 63 #[.int .i64 n, .int .i64 10] w fun e w' => e = .returned (.string ⟨(Lib.itoa n).toArray⟩) ∧ ∃ k os, w' = grow (w.drewN k) os := Any.internal_strconv_FormatInt_10 Tryd.laysM246 n h0 h1 w htab
def Tryd.lays246_ren : Go.Shelf.Ren := ⟨fun | 246 => 63 | 283 => 66 | 284 => 67 | 285 => 68 | 286 => 69 | 129 => 73 | 317 => 72 | 318 => 74 | 319 => 75 | 320 => 76 | 337 => 77 | 338 => 78 | n => n, fun | 2 => 2 | 3 => 3 | 9 => 9 | 4 => 4 | 171 => 82 | 0 => 0 | 53 => 83 | 37 => 22 | 5 => 5 | 173 => 86 | 212 => 91 | 51 => 92 | 20 => 20 | 213 => 93 | 46 => 64 | 232 => 97 | 233 => 98 | n => n, fun | 17 => 2 | 18 => 3 | 19 => 4 | n => n⟩
theorem Tryd.lays246 : Go.Proofs.Lays.n246 Tryd.prog Tryd.lays246_ren := {
  mixed := by kernel_rfl
  f129 := Tryd.func73.trans (congrArg some (by kernel_rfl))
  f246 := Tryd.func63.trans (congrArg some (by kernel_rfl))
  f283 := Tryd.func66.trans (congrArg some (by kernel_rfl))
  f284 := Tryd.func67.trans (congrArg some (by kernel_rfl))
  f285 := Tryd.func68.trans (congrArg some (by kernel_rfl))
  f286 := Tryd.func69.trans (congrArg some (by kernel_rfl))
  f317 := Tryd.func72.trans (congrArg some (by kernel_rfl))
  f318 := Tryd.func74.trans (congrArg some (by kernel_rfl))
  f319 := Tryd.func75.trans (congrArg some (by kernel_rfl))
  f320 := Tryd.func76.trans (congrArg some (by kernel_rfl))
  f337 := Tryd.func77.trans (congrArg some (by kernel_rfl))
  f338 := Tryd.func78.trans (congrArg some (by kernel_rfl))
  t0 := Tryd.underlying0
  a0 := Tryd.isAgg0
  z0 := Tryd.sizeOf0
  v0 := Tryd.zeroValue0
  t2 := Tryd.underlying2
  a2 := Tryd.isAgg2
  z2 := Tryd.sizeOf2
  v2 := Tryd.zeroValue2
  t3 := Tryd.underlying3
  a3 := Tryd.isAgg3
  z3 := Tryd.sizeOf3
  v3 := Tryd.zeroValue3
  t4 := Tryd.underlying4
  a4 := Tryd.isAgg4
  z4 := Tryd.sizeOf4
  v4 := Tryd.zeroValue4
  t5 := Tryd.underlying5
  a5 := Tryd.isAgg5
  z5 := Tryd.sizeOf5
  v5 := Tryd.zeroValue5
  t9 := Tryd.underlying9
  a9 := Tryd.isAgg9
  z9 := Tryd.sizeOf9
  v9 := Tryd.zeroValue9
  t20 := Tryd.underlying20
  a20 := Tryd.isAgg20
  z20 := Tryd.sizeOf20
  v20 := Tryd.zeroValue20
  t37 := Tryd.underlying22
  a37 := Tryd.isAgg22
  z37 := Tryd.sizeOf22
  v37 := Tryd.zeroValue22
  t46 := Tryd.underlying64
  a46 := Tryd.isAgg64
  z46 := Tryd.sizeOf64
  v46 := Tryd.zeroValue64
  t51 := Tryd.underlying92
  a51 := Tryd.isAgg92
  z51 := Tryd.sizeOf92
  v51 := Tryd.zeroValue92
  t53 := Tryd.underlying83
  a53 := Tryd.isAgg83
  z53 := Tryd.sizeOf83
  v53 := Tryd.zeroValue83
  t171 := Tryd.underlying82
  a171 := Tryd.isAgg82
  z171 := Tryd.sizeOf82
  v171 := Tryd.zeroValue82
  t173 := Tryd.underlying86
  a173 := Tryd.isAgg86
  z173 := Tryd.sizeOf86
  v173 := Tryd.zeroValue86
  t212 := Tryd.underlying91
  a212 := Tryd.isAgg91
  z212 := Tryd.sizeOf91
  v212 := Tryd.zeroValue91
  t213 := Tryd.underlying93
  a213 := Tryd.isAgg93
  z213 := Tryd.sizeOf93
  t232 := Tryd.underlying97
  a232 := Tryd.isAgg97
  z232 := Tryd.sizeOf97
  v232 := Tryd.zeroValue97
  t233 := Tryd.underlying98
  a233 := Tryd.isAgg98
  z233 := Tryd.sizeOf98
  v233 := Tryd.zeroValue98
  g17 := by kernel_rfl
  g18 := by kernel_rfl
  g19 := by kernel_rfl }
open Go.RowKit Go.Sort Go.Lib in
/-- THE ROAD WITHOUT THE TABLE: 0 <= i < 100: two constants are read, nothing is laid: no premise on the world, and the world is as it was. (LAID: no walk: one application.) -/
theorem Tryd.internal_strconv_FormatInt_10_small (i : Nat) (hi : i < 100) (w : World) :
    Calls Tryd.prog 63 #[.int .i64 i, .int .i64 10] w fun e w' => e = .returned (.string ⟨(Lib.decDigits i).toArray⟩) ∧ w' = w := Any.internal_strconv_FormatInt_10_small Tryd.lays246 i hi w
def Tryd.laysM243_ren : Go.Shelf.Ren := ⟨fun | 243 => 58 | 246 => 63 | 283 => 66 | 284 => 67 | 285 => 68 | 286 => 69 | 129 => 73 | 317 => 72 | 318 => 74 | 319 => 75 | 320 => 76 | 337 => 77 | 338 => 78 | n => n, fun | 3 => 3 | 9 => 9 | 2 => 2 | 4 => 4 | 171 => 82 | 0 => 0 | 53 => 83 | 37 => 22 | 5 => 5 | 173 => 86 | 212 => 91 | 51 => 92 | 20 => 20 | 213 => 93 | 46 => 64 | 232 => 97 | 233 => 98 | n => n, fun | 17 => 2 | 18 => 3 | 19 => 4 | n => n⟩
theorem Tryd.laysM243 : Go.Proofs.LaysM.n243 Tryd.prog Tryd.laysM243_ren := {
  mixed := by kernel_rfl
  f129 := Tryd.func73.trans (congrArg some (by kernel_rfl))
  f243 := Tryd.func58.trans (congrArg some (by kernel_rfl))
  f246 := Tryd.func63.trans (congrArg some (by kernel_rfl))
  f283 := Tryd.func66.trans (congrArg some (by kernel_rfl))
  f284 := Tryd.func67.trans (congrArg some (by kernel_rfl))
  f285 := Tryd.func68.trans (congrArg some (by kernel_rfl))
  f286 := Tryd.func69.trans (congrArg some (by kernel_rfl))
  f317 := Tryd.func72.trans (congrArg some (by kernel_rfl))
  f318 := Tryd.func74.trans (congrArg some (by kernel_rfl))
  f319 := Tryd.func75.trans (congrArg some (by kernel_rfl))
  f320 := Tryd.func76.trans (congrArg some (by kernel_rfl))
  f337 := Tryd.func77.trans (congrArg some (by kernel_rfl))
  f338 := Tryd.func78.trans (congrArg some (by kernel_rfl))
  t0 := Tryd.underlying0
  a0 := Tryd.isAgg0
  z0 := Tryd.sizeOf0
  v0 := Tryd.zeroValue0
  t2 := Tryd.underlying2
  a2 := Tryd.isAgg2
  z2 := Tryd.sizeOf2
  v2 := Tryd.zeroValue2
  t3 := Tryd.underlying3
  a3 := Tryd.isAgg3
  z3 := Tryd.sizeOf3
  v3 := Tryd.zeroValue3
  t4 := Tryd.underlying4
  a4 := Tryd.isAgg4
  z4 := Tryd.sizeOf4
  v4 := Tryd.zeroValue4
  t5 := Tryd.underlying5
  a5 := Tryd.isAgg5
  z5 := Tryd.sizeOf5
  v5 := Tryd.zeroValue5
  t9 := Tryd.underlying9
  a9 := Tryd.isAgg9
  z9 := Tryd.sizeOf9
  v9 := Tryd.zeroValue9
  t20 := Tryd.underlying20
  a20 := Tryd.isAgg20
  z20 := Tryd.sizeOf20
  v20 := Tryd.zeroValue20
  t37 := Tryd.underlying22
  a37 := Tryd.isAgg22
  z37 := Tryd.sizeOf22
  v37 := Tryd.zeroValue22
  t46 := Tryd.underlying64
  a46 := Tryd.isAgg64
  z46 := Tryd.sizeOf64
  v46 := Tryd.zeroValue64
  t51 := Tryd.underlying92
  a51 := Tryd.isAgg92
  z51 := Tryd.sizeOf92
  v51 := Tryd.zeroValue92
  t53 := Tryd.underlying83
  a53 := Tryd.isAgg83
  z53 := Tryd.sizeOf83
  v53 := Tryd.zeroValue83
  t171 := Tryd.underlying82
  a171 := Tryd.isAgg82
  z171 := Tryd.sizeOf82
  v171 := Tryd.zeroValue82
  t173 := Tryd.underlying86
  a173 := Tryd.isAgg86
  z173 := Tryd.sizeOf86
  v173 := Tryd.zeroValue86
  t212 := Tryd.underlying91
  a212 := Tryd.isAgg91
  z212 := Tryd.sizeOf91
  v212 := Tryd.zeroValue91
  t213 := Tryd.underlying93
  a213 := Tryd.isAgg93
  z213 := Tryd.sizeOf93
  t232 := Tryd.underlying97
  a232 := Tryd.isAgg97
  z232 := Tryd.sizeOf97
  v232 := Tryd.zeroValue97
  t233 := Tryd.underlying98
  a233 := Tryd.isAgg98
  z233 := Tryd.sizeOf98
  v233 := Tryd.zeroValue98
  g17 := by kernel_rfl
  g18 := by kernel_rfl
  g19 := by kernel_rfl
  i0 := by kernel_rfl
  i2 := by kernel_rfl
  i3 := by kernel_rfl
  i4 := by kernel_rfl
  i5 := by kernel_rfl
  i9 := by kernel_rfl
  i20 := by kernel_rfl
  i37 := by kernel_rfl
  i46 := by kernel_rfl
  i51 := by kernel_rfl
  i53 := by kernel_rfl
  i171 := by kernel_rfl
  i173 := by kernel_rfl
  i212 := by kernel_rfl
  i232 := by kernel_rfl
  i233 := by kernel_rfl
  m17 := by kernel_rfl
  m18 := by kernel_rfl
  m19 := by kernel_rfl }
open Go.RowKit Go.Sort Go.Lib in
/-- internal/strconv.Itoa: "Itoa is equivalent to FormatInt(int64(i), 10).": i's decimal numeral, for every int. (LAID: no walk: one application.) -/
theorem Tryd.internal_strconv_Itoa (n : Int) (h0 : -9223372036854775808 ≤ n) (h1 : n ≤ 9223372036854775807) (w : World) (htab : Lib.TabIs Tryd.prog w "internal/strconv.uint64pow10" .u64 Lib.pow10Tab) :
    Calls Tryd.prog 58 #[.int .i64 n] w fun e w' => e = .returned (.string ⟨(Lib.itoa n).toArray⟩) ∧ ∃ k os, w' = grow (w.drewN k) os := Any.internal_strconv_Itoa Tryd.laysM243 n h0 h1 w htab
def Tryd.lays243_ren : Go.Shelf.Ren := ⟨fun | 243 => 58 | 246 => 63 | 283 => 66 | 284 => 67 | 285 => 68 | 286 => 69 | 129 => 73 | 317 => 72 | 318 => 74 | 319 => 75 | 320 => 76 | 337 => 77 | 338 => 78 | n => n, fun | 3 => 3 | 9 => 9 | 2 => 2 | 4 => 4 | 171 => 82 | 0 => 0 | 53 => 83 | 37 => 22 | 5 => 5 | 173 => 86 | 212 => 91 | 51 => 92 | 20 => 20 | 213 => 93 | 46 => 64 | 232 => 97 | 233 => 98 | n => n, fun | 17 => 2 | 18 => 3 | 19 => 4 | n => n⟩
theorem Tryd.lays243 : Go.Proofs.Lays.n243 Tryd.prog Tryd.lays243_ren := {
  mixed := by kernel_rfl
  f129 := Tryd.func73.trans (congrArg some (by kernel_rfl))
  f243 := Tryd.func58.trans (congrArg some (by kernel_rfl))
  f246 := Tryd.func63.trans (congrArg some (by kernel_rfl))
  f283 := Tryd.func66.trans (congrArg some (by kernel_rfl))
  f284 := Tryd.func67.trans (congrArg some (by kernel_rfl))
  f285 := Tryd.func68.trans (congrArg some (by kernel_rfl))
  f286 := Tryd.func69.trans (congrArg some (by kernel_rfl))
  f317 := Tryd.func72.trans (congrArg some (by kernel_rfl))
  f318 := Tryd.func74.trans (congrArg some (by kernel_rfl))
  f319 := Tryd.func75.trans (congrArg some (by kernel_rfl))
  f320 := Tryd.func76.trans (congrArg some (by kernel_rfl))
  f337 := Tryd.func77.trans (congrArg some (by kernel_rfl))
  f338 := Tryd.func78.trans (congrArg some (by kernel_rfl))
  t0 := Tryd.underlying0
  a0 := Tryd.isAgg0
  z0 := Tryd.sizeOf0
  v0 := Tryd.zeroValue0
  t2 := Tryd.underlying2
  a2 := Tryd.isAgg2
  z2 := Tryd.sizeOf2
  v2 := Tryd.zeroValue2
  t3 := Tryd.underlying3
  a3 := Tryd.isAgg3
  z3 := Tryd.sizeOf3
  v3 := Tryd.zeroValue3
  t4 := Tryd.underlying4
  a4 := Tryd.isAgg4
  z4 := Tryd.sizeOf4
  v4 := Tryd.zeroValue4
  t5 := Tryd.underlying5
  a5 := Tryd.isAgg5
  z5 := Tryd.sizeOf5
  v5 := Tryd.zeroValue5
  t9 := Tryd.underlying9
  a9 := Tryd.isAgg9
  z9 := Tryd.sizeOf9
  v9 := Tryd.zeroValue9
  t20 := Tryd.underlying20
  a20 := Tryd.isAgg20
  z20 := Tryd.sizeOf20
  v20 := Tryd.zeroValue20
  t37 := Tryd.underlying22
  a37 := Tryd.isAgg22
  z37 := Tryd.sizeOf22
  v37 := Tryd.zeroValue22
  t46 := Tryd.underlying64
  a46 := Tryd.isAgg64
  z46 := Tryd.sizeOf64
  v46 := Tryd.zeroValue64
  t51 := Tryd.underlying92
  a51 := Tryd.isAgg92
  z51 := Tryd.sizeOf92
  v51 := Tryd.zeroValue92
  t53 := Tryd.underlying83
  a53 := Tryd.isAgg83
  z53 := Tryd.sizeOf83
  v53 := Tryd.zeroValue83
  t171 := Tryd.underlying82
  a171 := Tryd.isAgg82
  z171 := Tryd.sizeOf82
  v171 := Tryd.zeroValue82
  t173 := Tryd.underlying86
  a173 := Tryd.isAgg86
  z173 := Tryd.sizeOf86
  v173 := Tryd.zeroValue86
  t212 := Tryd.underlying91
  a212 := Tryd.isAgg91
  z212 := Tryd.sizeOf91
  v212 := Tryd.zeroValue91
  t213 := Tryd.underlying93
  a213 := Tryd.isAgg93
  z213 := Tryd.sizeOf93
  t232 := Tryd.underlying97
  a232 := Tryd.isAgg97
  z232 := Tryd.sizeOf97
  v232 := Tryd.zeroValue97
  t233 := Tryd.underlying98
  a233 := Tryd.isAgg98
  z233 := Tryd.sizeOf98
  v233 := Tryd.zeroValue98
  g17 := by kernel_rfl
  g18 := by kernel_rfl
  g19 := by kernel_rfl }
open Go.RowKit Go.Sort Go.Lib in
/-- THE ROAD WITHOUT THE TABLE: 0 <= i < 100. (LAID: no walk: one application.) -/
theorem Tryd.internal_strconv_Itoa_small (i : Nat) (hi : i < 100) (w : World) :
    Calls Tryd.prog 58 #[.int .i64 i] w fun e w' => e = .returned (.string ⟨(Lib.decDigits i).toArray⟩) ∧ w' = w := Any.internal_strconv_Itoa_small Tryd.lays243 i hi w
def Tryd.laysM171_ren : Go.Shelf.Ren := ⟨fun | 171 => 47 | 243 => 58 | 246 => 63 | 283 => 66 | 284 => 67 | 285 => 68 | 286 => 69 | 129 => 73 | 317 => 72 | 318 => 74 | 319 => 75 | 320 => 76 | 337 => 77 | 338 => 78 | n => n, fun | 3 => 3 | 9 => 9 | 2 => 2 | 4 => 4 | 171 => 82 | 0 => 0 | 53 => 83 | 37 => 22 | 5 => 5 | 173 => 86 | 212 => 91 | 51 => 92 | 20 => 20 | 213 => 93 | 46 => 64 | 232 => 97 | 233 => 98 | n => n, fun | 17 => 2 | 18 => 3 | 19 => 4 | n => n⟩
theorem Tryd.laysM171 : Go.Proofs.LaysM.n171 Tryd.prog Tryd.laysM171_ren := {
  mixed := by kernel_rfl
  f129 := Tryd.func73.trans (congrArg some (by kernel_rfl))
  f171 := Tryd.func47.trans (congrArg some (by kernel_rfl))
  f243 := Tryd.func58.trans (congrArg some (by kernel_rfl))
  f246 := Tryd.func63.trans (congrArg some (by kernel_rfl))
  f283 := Tryd.func66.trans (congrArg some (by kernel_rfl))
  f284 := Tryd.func67.trans (congrArg some (by kernel_rfl))
  f285 := Tryd.func68.trans (congrArg some (by kernel_rfl))
  f286 := Tryd.func69.trans (congrArg some (by kernel_rfl))
  f317 := Tryd.func72.trans (congrArg some (by kernel_rfl))
  f318 := Tryd.func74.trans (congrArg some (by kernel_rfl))
  f319 := Tryd.func75.trans (congrArg some (by kernel_rfl))
  f320 := Tryd.func76.trans (congrArg some (by kernel_rfl))
  f337 := Tryd.func77.trans (congrArg some (by kernel_rfl))
  f338 := Tryd.func78.trans (congrArg some (by kernel_rfl))
  t0 := Tryd.underlying0
  a0 := Tryd.isAgg0
  z0 := Tryd.sizeOf0
  v0 := Tryd.zeroValue0
  t2 := Tryd.underlying2
  a2 := Tryd.isAgg2
  z2 := Tryd.sizeOf2
  v2 := Tryd.zeroValue2
  t3 := Tryd.underlying3
  a3 := Tryd.isAgg3
  z3 := Tryd.sizeOf3
  v3 := Tryd.zeroValue3
  t4 := Tryd.underlying4
  a4 := Tryd.isAgg4
  z4 := Tryd.sizeOf4
  v4 := Tryd.zeroValue4
  t5 := Tryd.underlying5
  a5 := Tryd.isAgg5
  z5 := Tryd.sizeOf5
  v5 := Tryd.zeroValue5
  t9 := Tryd.underlying9
  a9 := Tryd.isAgg9
  z9 := Tryd.sizeOf9
  v9 := Tryd.zeroValue9
  t20 := Tryd.underlying20
  a20 := Tryd.isAgg20
  z20 := Tryd.sizeOf20
  v20 := Tryd.zeroValue20
  t37 := Tryd.underlying22
  a37 := Tryd.isAgg22
  z37 := Tryd.sizeOf22
  v37 := Tryd.zeroValue22
  t46 := Tryd.underlying64
  a46 := Tryd.isAgg64
  z46 := Tryd.sizeOf64
  v46 := Tryd.zeroValue64
  t51 := Tryd.underlying92
  a51 := Tryd.isAgg92
  z51 := Tryd.sizeOf92
  v51 := Tryd.zeroValue92
  t53 := Tryd.underlying83
  a53 := Tryd.isAgg83
  z53 := Tryd.sizeOf83
  v53 := Tryd.zeroValue83
  t171 := Tryd.underlying82
  a171 := Tryd.isAgg82
  z171 := Tryd.sizeOf82
  v171 := Tryd.zeroValue82
  t173 := Tryd.underlying86
  a173 := Tryd.isAgg86
  z173 := Tryd.sizeOf86
  v173 := Tryd.zeroValue86
  t212 := Tryd.underlying91
  a212 := Tryd.isAgg91
  z212 := Tryd.sizeOf91
  v212 := Tryd.zeroValue91
  t213 := Tryd.underlying93
  a213 := Tryd.isAgg93
  z213 := Tryd.sizeOf93
  t232 := Tryd.underlying97
  a232 := Tryd.isAgg97
  z232 := Tryd.sizeOf97
  v232 := Tryd.zeroValue97
  t233 := Tryd.underlying98
  a233 := Tryd.isAgg98
  z233 := Tryd.sizeOf98
  v233 := Tryd.zeroValue98
  g17 := by kernel_rfl
  g18 := by kernel_rfl
  g19 := by kernel_rfl
  i0 := by kernel_rfl
  i2 := by kernel_rfl
  i3 := by kernel_rfl
  i4 := by kernel_rfl
  i5 := by kernel_rfl
  i9 := by kernel_rfl
  i20 := by kernel_rfl
  i37 := by kernel_rfl
  i46 := by kernel_rfl
  i51 := by kernel_rfl
  i53 := by kernel_rfl
  i171 := by kernel_rfl
  i173 := by kernel_rfl
  i212 := by kernel_rfl
  i232 := by kernel_rfl
  i233 := by kernel_rfl
  m17 := by kernel_rfl
  m18 := by kernel_rfl
  m19 := by kernel_rfl }
open Go.RowKit Go.Sort Go.Lib in
/-- strconv.Itoa: "Itoa is equivalent to FormatInt(int64(i), 10).": i's DECIMAL NUMERAL ('Lib.itoa': a '-' where i is negative, then the digits), FOR EVERY int. The world behind the call: the world before it, new blocks behind the heap (the library's 'var a [24]byte'), draws. (LAID: no walk: one application.) -/
theorem Tryd.strconv_Itoa (n : Int) (h0 : -9223372036854775808 ≤ n) (h1 : n ≤ 9223372036854775807) (w : World) (htab : Lib.TabIs Tryd.prog w "internal/strconv.uint64pow10" .u64 Lib.pow10Tab) :
    Calls Tryd.prog 47 #[.int .i64 n] w fun e w' => e = .returned (.string ⟨(Lib.itoa n).toArray⟩) ∧ ∃ k os, w' = grow (w.drewN k) os := Any.strconv_Itoa Tryd.laysM171 n h0 h1 w htab
def Tryd.lays171_ren : Go.Shelf.Ren := ⟨fun | 171 => 47 | 243 => 58 | 246 => 63 | 283 => 66 | 284 => 67 | 285 => 68 | 286 => 69 | 129 => 73 | 317 => 72 | 318 => 74 | 319 => 75 | 320 => 76 | 337 => 77 | 338 => 78 | n => n, fun | 3 => 3 | 9 => 9 | 2 => 2 | 4 => 4 | 171 => 82 | 0 => 0 | 53 => 83 | 37 => 22 | 5 => 5 | 173 => 86 | 212 => 91 | 51 => 92 | 20 => 20 | 213 => 93 | 46 => 64 | 232 => 97 | 233 => 98 | n => n, fun | 17 => 2 | 18 => 3 | 19 => 4 | n => n⟩
theorem Tryd.lays171 : Go.Proofs.Lays.n171 Tryd.prog Tryd.lays171_ren := {
  mixed := by kernel_rfl
  f129 := Tryd.func73.trans (congrArg some (by kernel_rfl))
  f171 := Tryd.func47.trans (congrArg some (by kernel_rfl))
  f243 := Tryd.func58.trans (congrArg some (by kernel_rfl))
  f246 := Tryd.func63.trans (congrArg some (by kernel_rfl))
  f283 := Tryd.func66.trans (congrArg some (by kernel_rfl))
  f284 := Tryd.func67.trans (congrArg some (by kernel_rfl))
  f285 := Tryd.func68.trans (congrArg some (by kernel_rfl))
  f286 := Tryd.func69.trans (congrArg some (by kernel_rfl))
  f317 := Tryd.func72.trans (congrArg some (by kernel_rfl))
  f318 := Tryd.func74.trans (congrArg some (by kernel_rfl))
  f319 := Tryd.func75.trans (congrArg some (by kernel_rfl))
  f320 := Tryd.func76.trans (congrArg some (by kernel_rfl))
  f337 := Tryd.func77.trans (congrArg some (by kernel_rfl))
  f338 := Tryd.func78.trans (congrArg some (by kernel_rfl))
  t0 := Tryd.underlying0
  a0 := Tryd.isAgg0
  z0 := Tryd.sizeOf0
  v0 := Tryd.zeroValue0
  t2 := Tryd.underlying2
  a2 := Tryd.isAgg2
  z2 := Tryd.sizeOf2
  v2 := Tryd.zeroValue2
  t3 := Tryd.underlying3
  a3 := Tryd.isAgg3
  z3 := Tryd.sizeOf3
  v3 := Tryd.zeroValue3
  t4 := Tryd.underlying4
  a4 := Tryd.isAgg4
  z4 := Tryd.sizeOf4
  v4 := Tryd.zeroValue4
  t5 := Tryd.underlying5
  a5 := Tryd.isAgg5
  z5 := Tryd.sizeOf5
  v5 := Tryd.zeroValue5
  t9 := Tryd.underlying9
  a9 := Tryd.isAgg9
  z9 := Tryd.sizeOf9
  v9 := Tryd.zeroValue9
  t20 := Tryd.underlying20
  a20 := Tryd.isAgg20
  z20 := Tryd.sizeOf20
  v20 := Tryd.zeroValue20
  t37 := Tryd.underlying22
  a37 := Tryd.isAgg22
  z37 := Tryd.sizeOf22
  v37 := Tryd.zeroValue22
  t46 := Tryd.underlying64
  a46 := Tryd.isAgg64
  z46 := Tryd.sizeOf64
  v46 := Tryd.zeroValue64
  t51 := Tryd.underlying92
  a51 := Tryd.isAgg92
  z51 := Tryd.sizeOf92
  v51 := Tryd.zeroValue92
  t53 := Tryd.underlying83
  a53 := Tryd.isAgg83
  z53 := Tryd.sizeOf83
  v53 := Tryd.zeroValue83
  t171 := Tryd.underlying82
  a171 := Tryd.isAgg82
  z171 := Tryd.sizeOf82
  v171 := Tryd.zeroValue82
  t173 := Tryd.underlying86
  a173 := Tryd.isAgg86
  z173 := Tryd.sizeOf86
  v173 := Tryd.zeroValue86
  t212 := Tryd.underlying91
  a212 := Tryd.isAgg91
  z212 := Tryd.sizeOf91
  v212 := Tryd.zeroValue91
  t213 := Tryd.underlying93
  a213 := Tryd.isAgg93
  z213 := Tryd.sizeOf93
  t232 := Tryd.underlying97
  a232 := Tryd.isAgg97
  z232 := Tryd.sizeOf97
  v232 := Tryd.zeroValue97
  t233 := Tryd.underlying98
  a233 := Tryd.isAgg98
  z233 := Tryd.sizeOf98
  v233 := Tryd.zeroValue98
  g17 := by kernel_rfl
  g18 := by kernel_rfl
  g19 := by kernel_rfl }
open Go.RowKit Go.Sort Go.Lib in
/-- THE ROAD WITHOUT THE TABLE: 0 <= i < 100: NO PREMISE ON THE WORLD, AND THE WORLD IS AS IT WAS: a row that keeps its argument in that range need list no table ('laid = []'). (LAID: no walk: one application.) -/
theorem Tryd.strconv_Itoa_small (i : Nat) (hi : i < 100) (w : World) :
    Calls Tryd.prog 47 #[.int .i64 i] w fun e w' => e = .returned (.string ⟨(Lib.decDigits i).toArray⟩) ∧ w' = w := Any.strconv_Itoa_small Tryd.lays171 i hi w
def Tryd.laysValid_ren : Go.Shelf.Ren := ⟨fun | 196 => 61 | 259 => 65 | n => n, fun | 9 => 9 | 4 => 4 | 3 => 3 | 5 => 5 | 12 => 12 | 119 => 78 | 0 => 0 | 46 => 64 | 139 => 81 | 138 => 80 | 53 => 83 | n => n, fun | 3 => 0 | 4 => 1 | n => n⟩
theorem Tryd.laysValid : Go.Proofs.Lays.n196 Tryd.prog Tryd.laysValid_ren := {
  mixed := by kernel_rfl
  f196 := Tryd.func61.trans (congrArg some (by kernel_rfl))
  f259 := Tryd.func65.trans (congrArg some (by kernel_rfl))
  t0 := Tryd.underlying0
  a0 := Tryd.isAgg0
  z0 := Tryd.sizeOf0
  v0 := Tryd.zeroValue0
  t3 := Tryd.underlying3
  a3 := Tryd.isAgg3
  z3 := Tryd.sizeOf3
  v3 := Tryd.zeroValue3
  t4 := Tryd.underlying4
  a4 := Tryd.isAgg4
  z4 := Tryd.sizeOf4
  v4 := Tryd.zeroValue4
  t5 := Tryd.underlying5
  a5 := Tryd.isAgg5
  z5 := Tryd.sizeOf5
  v5 := Tryd.zeroValue5
  t9 := Tryd.underlying9
  a9 := Tryd.isAgg9
  z9 := Tryd.sizeOf9
  v9 := Tryd.zeroValue9
  t12 := Tryd.underlying12
  a12 := Tryd.isAgg12
  z12 := Tryd.sizeOf12
  v12 := Tryd.zeroValue12
  t46 := Tryd.underlying64
  a46 := Tryd.isAgg64
  z46 := Tryd.sizeOf64
  v46 := Tryd.zeroValue64
  t53 := Tryd.underlying83
  a53 := Tryd.isAgg83
  z53 := Tryd.sizeOf83
  v53 := Tryd.zeroValue83
  t119 := Tryd.underlying78
  a119 := Tryd.isAgg78
  z119 := Tryd.sizeOf78
  t138 := Tryd.underlying80
  a138 := Tryd.isAgg80
  z138 := Tryd.sizeOf80
  v138 := Tryd.zeroValue80
  t139 := Tryd.underlying81
  a139 := Tryd.isAgg81
  z139 := Tryd.sizeOf81
  v139 := Tryd.zeroValue81
  g3 := by kernel_rfl
  g4 := by kernel_rfl }
open Go.RowKit Go.Lib in
theorem Tryd.utf8_ValidString (s : ByteArray) (w : World) (hs : s.size ≤ 9223372036854775807) (hT : Lib.Utf8Tabs 0 1 w) :
    Calls Tryd.prog 61 #[.string s] w fun e w' => e = .returned (.bool (Lib.validD s.data.toList)) ∧ Below w.heap.size w w' := Any.utf8_ValidString Tryd.laysValid s w hs hT
end Go.Proofs

namespace Go.Proofs.YthngfihpnfoppaaDoor
open Go.RowKit

set_option maxHeartbeats 800000 in
set_option maxRecDepth 10000 in
theorem decText_spec (n : Int) (w : World) (hn : i64ok n) :
    Calls Tryd.prog 36 #[.int .i64 n] w fun e w' => e = .returned (.string ⟨(Lib.itoa n).toArray⟩) ∧ Below w.heap.size w w' := by
  obtain ⟨h1, h2⟩ := hn
  by_cases h0 : n = 0
  · subst h0
    have HZ := Lib.hid (show Lib.itoa 0 = [48] by rw [show (0 : Int) = ((0 : Nat) : Int) from rfl, Lib.itoa_nonneg, Lib.decDigits_one (by decide)]; rfl)
    go_enter Tryd.func36, Tryd.ntmps36
    go_wp2
    go_ret
    exact ⟨ret_str HZ.out.symm, Below.refl _ _⟩
  have g0 : (n == 0) = false := by simpa using h0
  obtain ⟨res, hres⟩ : ∃ res, Lib.decDigits n.natAbs = res := ⟨_, rfl⟩
  have hrl : res.length ≤ 20 := by rw [← hres]; exact decDigits_len20 (by omega)
  go_enter Tryd.func36, Tryd.ntmps36
  go_wp2
  go_loopw [3, 4, 5] (fun o m d wr => ∃ (l : List UInt8) (q : Int), o = .string ⟨l.toArray⟩ ∧ m = .int .i64 q ∧ -9223372036854775808 ≤ q ∧ q ≤ 9223372036854775807 ∧ decOn q.natAbs l = res ∧ (0 ≤ n → 0 ≤ q) ∧ (n ≤ 0 → q ≤ 0) ∧ wr = w) (fun _ m _ _ => (intOf m).natAbs)
  case atStart => exact ⟨[], n, rfl, rfl, h1, h2, by unfold decOn; rw [if_neg (by omega), hres]; simp, fun h => h, fun h => h, rfl⟩
  case round =>
    obtain ⟨l, q, rfl, rfl, hq1, hq2, hd, hs1, hs2, rfl⟩ := hrel
    have HD := Lib.hid hd
    by_cases hq : q = 0
    · subst hq
      have hl : l = res := by rw [← hd]; rfl
      subst hl
      clear hd
      by_cases hneg : n < 0
      · have HR := Lib.hid (show Lib.itoa n = 45 :: l by unfold Lib.itoa; rw [if_pos hneg]; exact congrArg _ hres)
        go_wp2
        go_ret
        exact ⟨by rw [HR.out]; rfl, Below.refl _ _⟩
      · have HR := Lib.hid (show Lib.itoa n = l by unfold Lib.itoa; rw [if_neg hneg, show n.toNat = n.natAbs by omega]; exact hres)
        go_wp2
        go_ret
        exact ⟨by rw [HR.out]; rfl, Below.refl _ _⟩
    · have gq : (q != 0) = true := by simpa using hq
      have hu : q.natAbs ≠ 0 := by omega
      have ll : l.length ≤ 20 := by
        have := congrArg List.length hd; unfold decOn at this; rw [if_neg hu, List.length_append] at this; omega
      have st := decOn_step hu l
      rw [hd] at st
      clear hd
      have ta := tdivAbs q
      have tm := tmodAbs q
      have hb1 : -9223372036854775808 ≤ Int.tdiv q 10 := by omega
      have hb2 : Int.tdiv q 10 ≤ 9223372036854775807 := by omega
      obtain ⟨r, hr⟩ : ∃ r, Int.tmod q 10 = r := ⟨_, rfl⟩
      obtain ⟨t, ht⟩ : ∃ t, Int.tdiv q 10 = t := ⟨_, rfl⟩
      have hz1 : 0 ≤ q → 0 ≤ t := fun h => by rw [← ht]; exact Int.tdiv_nonneg h (by decide)
      have hz2 : q ≤ 0 → t ≤ 0 := fun h => by rw [← ht]; (have hh := Int.tdiv_nonneg (a := -q) (b := 10) (by omega) (by decide); rw [Int.neg_tdiv] at hh; omega)
      rw [hr] at tm
      rw [ht] at ta hb1 hb2
      have hd10 : r.natAbs < 10 := by omega
      have P := digs_at hd10
      rw [← ta, ← tm] at st
      have HST := Lib.hid st
      have hmeas : t.natAbs < q.natAbs := by omega
      clear st tm ta
      by_cases hr0 : r < 0
      · obtain ⟨d, rfl⟩ : ∃ d : Nat, r = -(d : Int) := ⟨r.natAbs, by omega⟩
        have e1 : (-(d : Int)).natAbs = d := by omega
        rw [e1] at P hd10 HST
        have i1 : (0 : Int) ≤ d := by omega
        have i2 : (d : Int) + 1 ≤ 10 := by omega
        go_wp2
        go_roundw
        case rel => exact ⟨_, t, rfl, rfl, hb1, hb2, by simpa using HST.out, fun h => hz1 (hs1 h), fun h => hz2 (hs2 h), by first | rfl | trivial⟩
        case measure => simp only [intOf]; exact hmeas
      · obtain ⟨d, rfl⟩ : ∃ d : Nat, r = (d : Int) := ⟨r.natAbs, by omega⟩
        have e1 : ((d : Int)).natAbs = d := by omega
        rw [e1] at P hd10 HST
        have i1 : (0 : Int) ≤ d := by omega
        have i2 : (d : Int) + 1 ≤ 10 := by omega
        go_wp2
        go_roundw
        case rel => exact ⟨_, t, rfl, rfl, hb1, hb2, by simpa using HST.out, fun h => hz1 (hs1 h), fun h => hz2 (hs2 h), by first | rfl | trivial⟩
        case measure => simp only [intOf]; exact hmeas
/-- the program's table of powers of ten -/
def TenTab (w : World) : Prop := Lib.TabIs Tryd.prog w "internal/strconv.uint64pow10" .u64 Lib.pow10Tab

theorem tenG : Tryd.prog.globalNamed "internal/strconv.uint64pow10" = some 2 := by kernel_rfl
theorem TenTab.lt {w : World} (h : TenTab w) : 2 < w.heap.size := cell_lt (Lib.TabIs.cell h tenG 0 (by decide))
theorem TenTab.below' {B : Nat} {w w' : World} (h : TenTab w) (hb : Below B w w') (hB : 2 < B) : TenTab w' := var?_below hb tenG hB h
theorem TenTab.below {w w' : World} (h : TenTab w) (hb : Below w.heap.size w w') : TenTab w' := h.below' hb h.lt
set_option maxHeartbeats 400000 in
theorem decText_impl (n : Int) (w : World) (hn : i64ok n) (hT : TenTab w) :
    Calls Tryd.prog 32 #[.int .i64 n] w fun e w' => e = .returned (.string ⟨(Lib.itoa n).toArray⟩) ∧ Below w.heap.size w w' := by
  have H := Lib.hid (Tryd.strconv_Itoa n hn.1 hn.2 w hT)
  go_enter Tryd.func32, Tryd.ntmps32
  go_wp2_with (go_at_call 47; refine H.out.mono ?_; rintro e w' ⟨rfl, k, os, rfl⟩)
  go_ret
  exact ⟨rfl, Lib.below_grow _ _ (Nat.le_refl _) _ _⟩
end Go.Proofs.YthngfihpnfoppaaDoor

namespace Go.Proofs.YthngfihpnfoppaaDoor
open Go.RowKit Go.Lib

/-- the bytes of a sign; none where a number is no sign -/
def utf (n : Nat) : List UInt8 :=
  if 1114111 < n ∨ (55296 ≤ n ∧ n ≤ 57343) then []
  else if n < 128 then [byteOf n]
  else if n < 2048 then [byteOf (192 + n / 64), byteOf (128 + n % 64)]
  else if n < 65536 then [byteOf (224 + n / 4096), byteOf (128 + n / 64 % 64), byteOf (128 + n % 64)]
  else [byteOf (240 + n / 262144), byteOf (128 + n / 4096 % 64), byteOf (128 + n / 64 % 64), byteOf (128 + n % 64)]
/-- how many bytes, and what the first one holds -/
def many (b : Nat) : Nat × Nat :=
  if b < 128 then (1, b) else if 192 ≤ b ∧ b ≤ 223 then (2, b % 32) else if 224 ≤ b ∧ b ≤ 239 then (3, b % 16) else if 240 ≤ b ∧ b ≤ 247 then (4, b % 8) else (0, 0)
def sgnV (n : Nat) (l : List UInt8) : Nat := l.foldl (fun n b => n * 64 + b.toNat % 64) n
/-- the sign that stands ahead, and its width -/
def sgn (l : List UInt8) : Option (Nat × Nat) :=
  if l = [] ∨ ((decodeL l).1 = 65533 ∧ (decodeL l).2 = 1) then none else some (decodeL l)

theorem byteOf_eq {m : Nat} {b : UInt8} : byteOf m = b ↔ m % 256 = b.toNat := by
  rw [← UInt8.toNat_inj, byteOf_toNat]
theorem many_cases (b : Nat) : (b < 128 ∧ many b = (1, b)) ∨ (192 ≤ b ∧ b ≤ 223 ∧ many b = (2, b % 32)) ∨ (224 ≤ b ∧ b ≤ 239 ∧ many b = (3, b % 16)) ∨ (240 ≤ b ∧ b ≤ 247 ∧ many b = (4, b % 8)) ∨ ((128 ≤ b ∧ b < 192 ∨ 248 ≤ b) ∧ many b = (0, 0)) := by
  unfold many
  by_cases h1 : b < 128
  · simp [h1]
  by_cases h2 : 192 ≤ b ∧ b ≤ 223
  · simp [h1, h2]
  by_cases h3 : 224 ≤ b ∧ b ≤ 239
  · rw [if_neg h1, if_neg h2, if_pos h3]; simp [h3]
  by_cases h4 : 240 ≤ b ∧ b ≤ 247
  · rw [if_neg h1, if_neg h2, if_neg h3, if_pos h4]; simp [h4]
  · rw [if_neg h1, if_neg h2, if_neg h3, if_neg h4]; right; right; right; right; exact ⟨by omega, rfl⟩

theorem utf_len (n : Nat) : (utf n).length ≤ 4 := by
  unfold utf; repeat' split
  all_goals simp

theorem sgn_pick {n b0 b1 b2 b3 v m : Nat} {u l : List UInt8} {p : Prop} [Decidable p] (hp : ¬ p) (c : Prop)
    (hy : c → decodeN n b0 b1 b2 b3 = (v, m) ∧ ¬ (v = 65533 ∧ m = 1) ∧ u = l) (hn : ¬ c → decodeN n b0 b1 b2 b3 = (65533, 1) ∧ u ≠ l) :
    (if (decodeN n b0 b1 b2 b3).1 = 65533 ∧ (decodeN n b0 b1 b2 b3).2 = 1 then none else some (decodeN n b0 b1 b2 b3)) = if p ∨ u ≠ l then none else some (v, m) := by
  by_cases hc : c
  · obtain ⟨h1, h2, h3⟩ := hy hc
    rw [h1, if_neg h2, if_neg]; intro h; rcases h with h | h
    · exact hp h
    · exact h h3
  · obtain ⟨h1, h3⟩ := hn hc
    rw [h1, if_pos ⟨rfl, rfl⟩, if_pos (.inr h3)]

theorem dec_short {n b0 b1 b2 b3 : Nat} (hb : 128 ≤ b0) (h : n < 2 ∨ (n < 3 ∧ 224 ≤ b0) ∨ (n < 4 ∧ 240 ≤ b0)) : decodeN n b0 b1 b2 b3 = (65533, 1) := by
  unfold decodeN; rw [if_neg (by omega), if_neg (by omega), if_neg (by omega), if_neg (by omega)]

theorem sgn_many (b0 : UInt8) (t : List UInt8) :
    sgn (b0 :: t) = if ((many b0.toNat).1 = 0 ∨ t.length + 1 < (many b0.toNat).1) ∨ utf (sgnV (many b0.toNat).2 (t.take ((many b0.toNat).1 - 1))) ≠ (b0 :: t).take (many b0.toNat).1 then none
      else some (sgnV (many b0.toNat).2 (t.take ((many b0.toNat).1 - 1)), (many b0.toNat).1) := by
  have hb0 := b0.toNat_lt
  unfold sgn
  rw [decodeL_N]
  simp only [List.cons_ne_nil, false_or, List.length_cons, List.getD_cons_zero]
  rcases many_cases b0.toNat with ⟨h, e⟩ | ⟨h1, h2, e⟩ | ⟨h1, h2, e⟩ | ⟨h1, h2, e⟩ | ⟨h, e⟩
  · rw [e]
    refine sgn_pick (by simp) True (fun _ => ⟨?_, by simp [sgnV]; omega, ?_⟩) (fun h => absurd trivial h)
    · rw [decodeN_ascii _ _ _ _ _ h]; simp [sgnV]
    · simp only [sgnV, List.take_zero, Nat.sub_self, List.foldl_nil, List.take_succ_cons]
      unfold utf; rw [if_neg (by omega), if_pos h, List.cons.injEq]; exact ⟨byteOf_eq.2 (by omega), rfl⟩
  · rw [e]
    match t with
    | [] => rw [dec_short (by omega) (by simp; try omega), if_pos ⟨rfl, rfl⟩, if_pos (by simp)]
    | b1 :: t =>
      have hb1 := b1.toNat_lt
      simp only [List.getD_cons_succ, List.getD_cons_zero, sgnV, Nat.reduceSub, List.take_succ_cons, List.take_zero, List.foldl_cons, List.foldl_nil, List.length_cons]
      refine sgn_pick (by omega) (b1.toNat / 64 = 2 ∧ 128 ≤ b0.toNat % 32 * 64 + b1.toNat % 64) (fun hc => ⟨?_, by omega, ?_⟩) (fun hc => ⟨?_, ?_⟩)
      · unfold decodeN; rw [if_neg (by omega), if_pos (by omega), if_pos (by omega)]
      · unfold utf; rw [if_neg (by omega), if_neg (by omega), if_pos (by omega), List.cons.injEq, List.cons.injEq]
        exact ⟨byteOf_eq.2 (by omega), byteOf_eq.2 (by omega), rfl⟩
      · unfold decodeN; rw [if_neg (by omega)]
        by_cases h : b1.toNat / 64 = 2
        · rw [if_pos (by omega), if_neg (by omega)]
        · rw [if_neg (by omega), if_neg (by omega), if_neg (by omega)]
      · unfold utf; rw [if_neg (by omega)]
        by_cases h : 128 ≤ b0.toNat % 32 * 64 + b1.toNat % 64
        · rw [if_neg (by omega), if_pos (by omega)]
          intro he; simp only [List.cons.injEq, byteOf_eq, and_true] at he; omega
        · rw [if_pos (by omega)]; simp
  · rw [e]
    match t with
    | [] => rw [dec_short (by omega) (by simp; try omega), if_pos ⟨rfl, rfl⟩, if_pos (by simp)]
    | [b1] => rw [dec_short (by omega) (by simp; try omega), if_pos ⟨rfl, rfl⟩, if_pos (by simp)]
    | b1 :: b2 :: t =>
      have hb1 := b1.toNat_lt
      have hb2 := b2.toNat_lt
      simp only [List.getD_cons_succ, List.getD_cons_zero, sgnV, Nat.reduceSub, List.take_succ_cons, List.take_zero, List.foldl_cons, List.foldl_nil, List.length_cons]
      obtain ⟨v, hv⟩ : ∃ v, (b0.toNat % 16 * 64 + b1.toNat % 64) * 64 + b2.toNat % 64 = v := ⟨_, rfl⟩
      refine sgn_pick (by omega) (b1.toNat / 64 = 2 ∧ b2.toNat / 64 = 2 ∧ 2048 ≤ v ∧ ¬ (55296 ≤ v ∧ v ≤ 57343)) (fun hc => ⟨?_, by omega, ?_⟩) (fun hc => ⟨?_, ?_⟩)
      · rw [hv]; unfold decodeN; rw [if_neg (by omega), if_neg (by omega), if_pos (by omega), if_pos (by omega)]; simp; omega
      · rw [hv]; unfold utf; rw [if_neg (by omega), if_neg (by omega), if_neg (by omega), if_pos (by omega)]; simp only [List.cons.injEq, and_true]
        exact ⟨byteOf_eq.2 (by omega), byteOf_eq.2 (by omega), byteOf_eq.2 (by omega)⟩
      · unfold decodeN; rw [if_neg (by omega), if_neg (by omega)]
        by_cases h : b1.toNat / 64 = 2 ∧ b2.toNat / 64 = 2
        · rw [if_pos (by omega), if_neg (by omega)]
        · rw [if_neg (by omega), if_neg (by omega)]
      · rw [hv]; unfold utf
        by_cases h : 55296 ≤ v ∧ v ≤ 57343
        · rw [if_pos (by omega)]; simp
        by_cases h : 2048 ≤ v
        · rw [if_neg (by omega), if_neg (by omega), if_neg (by omega), if_pos (by omega)]
          intro he; simp only [List.cons.injEq, byteOf_eq, and_true] at he; omega
        · rw [if_neg (by omega)]; split
          · simp
          · rw [if_pos (by omega)]; simp
  · rw [e]
    match t with
    | [] => rw [dec_short (by omega) (by simp; try omega), if_pos ⟨rfl, rfl⟩, if_pos (by simp)]
    | [b1] => rw [dec_short (by omega) (by simp; try omega), if_pos ⟨rfl, rfl⟩, if_pos (by simp)]
    | [b1, b2] => rw [dec_short (by omega) (by simp; try omega), if_pos ⟨rfl, rfl⟩, if_pos (by simp)]
    | b1 :: b2 :: b3 :: t =>
      have hb1 := b1.toNat_lt
      have hb2 := b2.toNat_lt
      have hb3 := b3.toNat_lt
      simp only [List.getD_cons_succ, List.getD_cons_zero, sgnV, Nat.reduceSub, List.take_succ_cons, List.take_zero, List.foldl_cons, List.foldl_nil, List.length_cons]
      obtain ⟨v, hv⟩ : ∃ v, ((b0.toNat % 8 * 64 + b1.toNat % 64) * 64 + b2.toNat % 64) * 64 + b3.toNat % 64 = v := ⟨_, rfl⟩
      refine sgn_pick (by omega) (b1.toNat / 64 = 2 ∧ b2.toNat / 64 = 2 ∧ b3.toNat / 64 = 2 ∧ 65536 ≤ v ∧ v ≤ 1114111) (fun hc => ⟨?_, by omega, ?_⟩) (fun hc => ⟨?_, ?_⟩)
      · rw [hv]; unfold decodeN; rw [if_neg (by omega), if_neg (by omega), if_neg (by omega), if_pos (by omega), if_pos (by omega)]; simp; omega
      · rw [hv]; unfold utf; rw [if_neg (by omega), if_neg (by omega), if_neg (by omega), if_neg (by omega)]; simp only [List.cons.injEq, and_true]
        exact ⟨byteOf_eq.2 (by omega), byteOf_eq.2 (by omega), byteOf_eq.2 (by omega), byteOf_eq.2 (by omega)⟩
      · unfold decodeN; rw [if_neg (by omega), if_neg (by omega), if_neg (by omega)]
        by_cases h : b1.toNat / 64 = 2 ∧ b2.toNat / 64 = 2 ∧ b3.toNat / 64 = 2
        · rw [if_pos (by omega), if_neg (by omega)]
        · rw [if_neg (by omega)]
      · rw [hv]; unfold utf
        by_cases h : 1114111 < v ∨ (55296 ≤ v ∧ v ≤ 57343)
        · rw [if_pos (by omega)]; simp
        by_cases h : 65536 ≤ v
        · rw [if_neg (by omega), if_neg (by omega), if_neg (by omega), if_neg (by omega)]
          intro he; simp only [List.cons.injEq, byteOf_eq, and_true] at he; omega
        · rw [if_neg (by omega)]; split
          · simp
          split
          · simp
          · rw [if_pos (by omega)]; simp
  · rw [e, if_pos (by rw [decodeN_bad _ _ _ _ _ (by omega)]; simp), if_pos (by simp)]
theorem sgn_nil : sgn [] = none := rfl
theorem sgn_bd {l : List UInt8} {n m : Nat} (h : sgn l = some (n, m)) : n ≤ 1114111 ∧ 1 ≤ m ∧ m ≤ l.length := by
  unfold sgn at h; split at h
  · cases h
  · rename_i hc
    simp only [Option.some.injEq] at h
    have h1 := decodeL_rune l; have h2 := decodeL_width l; have h3 := decodeL_le l (fun e => hc (.inl e))
    rw [h] at h1 h2 h3; exact ⟨h1, h2, h3⟩
theorem validD_sgn (l : List UInt8) (hne : l ≠ []) : validD l = match sgn l with | none => false | some (_, m) => validD (l.drop m) := by
  rw [validD_step l hne]; unfold sgn
  by_cases h : (decodeL l).1 = 65533 ∧ (decodeL l).2 = 1
  · rw [if_pos h, if_pos (.inr h)]
  · rw [if_neg h, if_neg (by simp [hne, h])]
theorem many_bd (b : Nat) (hb : b < 256) : (many b).1 ≤ 4 ∧ (many b).2 < 256 := by
  rcases many_cases b with ⟨_, e⟩ | ⟨_, _, e⟩ | ⟨_, _, e⟩ | ⟨_, _, e⟩ | ⟨_, e⟩ <;> rw [e] <;> simp <;> omega
theorem sgnV_snoc (v : Nat) (t : List UInt8) (j : Nat) (h : j < t.length) : sgnV v (t.take (j + 1)) = sgnV v (t.take j) * 64 + t[j].toNat % 64 := by
  unfold sgnV; rw [take_snoc t j h, List.foldl_append]; rfl
theorem sgnV_lt (t : List UInt8) : ∀ v, sgnV v t < (v + 1) * 64 ^ t.length := by
  induction t with
  | nil => intro v; simp [sgnV]
  | cons b t ih =>
    intro v
    have h1 := ih (v * 64 + b.toNat % 64)
    have h2 : (v * 64 + b.toNat % 64 + 1) ≤ (v + 1) * 64 := by omega
    have h3 := Nat.mul_le_mul_right (64 ^ t.length) h2
    show sgnV (v * 64 + b.toNat % 64) t < _
    rw [List.length_cons, Nat.pow_succ, Nat.mul_comm (64 ^ t.length) 64, ← Nat.mul_assoc]; omega
theorem sgnV_bd (v : Nat) (t : List UInt8) (j : Nat) (hv : v < 256) (hj : j ≤ 3) : sgnV v (t.take j) < 67108864 := by
  have h1 := sgnV_lt (t.take j) v
  have h2 : (t.take j).length ≤ 3 := by rw [List.length_take]; omega
  have h3 : 64 ^ (t.take j).length ≤ 64 ^ 3 := Nat.pow_le_pow_right (by omega) h2
  have h4 : (v + 1) * 64 ^ (t.take j).length ≤ 256 * 64 ^ 3 := Nat.mul_le_mul (by omega) h3
  omega
/-- GetSign: the sign at a place and the place behind it -/
def signAt (l : List UInt8) (i : Int) : Int × Int :=
  if 0 ≤ i ∧ i < l.length then (match sgn (l.drop i.toNat) with | none => (-1, -1) | some (n, m) => ((n : Int), i + m)) else (-1, -1)
theorem signAt_far {l : List UInt8} {i : Int} (h : ¬ (0 ≤ i ∧ i < l.length)) : signAt l i = (-1, -1) := by unfold signAt; rw [if_neg h]
theorem signAt_none {l : List UInt8} {k : Nat} (h : sgn (l.drop k) = none) : signAt l k = (-1, -1) := by
  unfold signAt; split
  · rw [Int.toNat_natCast, h]
  · rfl
theorem signAt_some {l : List UInt8} {k n m : Nat} (hk : k < l.length) (h : sgn (l.drop k) = some (n, m)) : signAt l k = ((n : Int), (k : Int) + m) := by
  unfold signAt; rw [if_pos (by omega), Int.toNat_natCast, h]
end Go.Proofs.YthngfihpnfoppaaDoor

/- Masks of integers of 64 bits and of bytes, as remainders. No program in sight. -/
namespace Go.Proofs.YthngfihpnfoppaaDoor
open Go.RowKit

theorem mask_i64 (x : Int) (k : Nat) (hk : k ≤ 62) (m : Int) (hm : m = 2 ^ k - 1) : bits .and .i64 x m = x % 2 ^ k := by
  subst hm
  have hp : (2 : Nat) ^ k ≤ 2 ^ 62 := Nat.pow_le_pow_right (by omega) hk
  have h0 : (1 : Nat) ≤ 2 ^ k := Nat.one_le_two_pow
  have e : ((2 : Int) ^ k - 1) = ((2 ^ k - 1 : Nat) : Int) := by rw [Int.natCast_sub h0]; simp
  have hm : (BitVec.ofInt 64 ((2 : Int) ^ k - 1)).toNat = 2 ^ k - 1 := by
    rw [e, BitVec.ofInt_natCast, BitVec.toNat_ofNat]; exact Nat.mod_eq_of_lt (by omega)
  show IntKind.i64.wrap ((BitVec.ofInt 64 x &&& BitVec.ofInt 64 ((2 : Int) ^ k - 1)).toNat : Int) = _
  rw [BitVec.toNat_and, hm, Nat.and_two_pow_sub_one_eq_mod, BitVec.toNat_ofInt]
  have hd : ((2 ^ k : Nat) : Int) ∣ ((2 ^ 64 : Nat) : Int) := by
    have : (2 : Nat) ^ k ∣ 2 ^ 64 := Nat.pow_dvd_pow 2 (by omega)
    exact Int.natCast_dvd_natCast.2 this
  have h1 : (((x % ((2 ^ 64 : Nat) : Int)).toNat % 2 ^ k : Nat) : Int) = x % ((2 ^ k : Nat) : Int) := by
    rw [Int.natCast_emod, Int.toNat_of_nonneg (Int.emod_nonneg _ (by decide)), Int.emod_emod_of_dvd _ hd]
  rw [h1]
  have h2 : ((2 ^ k : Nat) : Int) = (2 : Int) ^ k := by simp
  have h3 : (0 : Int) < ((2 ^ k : Nat) : Int) := by omega
  have h4 := Int.emod_nonneg x (show ((2 ^ k : Nat) : Int) ≠ 0 by omega)
  have h5 := Int.emod_lt_of_pos x h3
  rw [← h2, IntKind.wrap_i64]
  omega
theorem m1 (x : Int) : bits .and .i64 x 1 = x % 2 := mask_i64 x 1 (by decide) 1 (by decide)
theorem m7 (x : Int) : bits .and .i64 x 7 = x % 8 := mask_i64 x 3 (by decide) 7 (by decide)
theorem m15 (x : Int) : bits .and .i64 x 15 = x % 16 := mask_i64 x 4 (by decide) 15 (by decide)
theorem m31 (x : Int) : bits .and .i64 x 31 = x % 32 := mask_i64 x 5 (by decide) 31 (by decide)
theorem m63 (x : Int) : bits .and .i64 x 63 = x % 64 := mask_i64 x 6 (by decide) 63 (by decide)
theorem m127 (x : Int) : bits .and .i64 x 127 = x % 128 := mask_i64 x 7 (by decide) 127 (by decide)
theorem m255 (x : Int) : bits .and .i64 x 255 = x % 256 := mask_i64 x 8 (by decide) 255 (by decide)
attribute [go_sem] m1 m7 m15 m31 m63 m127 m255
end Go.Proofs.YthngfihpnfoppaaDoor

/- Whether a text is right: the contracts of PutSign, GetSign, Signs and TextOk of the reference. -/
namespace Go.Proofs.YthngfihpnfoppaaDoor
open Go.RowKit Go.Lib

set_option maxRecDepth 10000 in
theorem l01Many_any (b : UInt8) (w : World) :
    Calls Tryd.prog 70 #[.int .i64 (b.toNat : Nat)] w fun e w' => e = .returned (.tuple #[.int .i64 ((many b.toNat).1 : Nat), .int .i64 ((many b.toNat).2 : Nat)]) ∧ w = w' := by
  have hb := b.toNat_lt
  generalize b.toNat = n at *
  have h0 : (0 : Int) ≤ n := by omega
  rcases many_cases n with ⟨h, e⟩ | ⟨h1, h2, e⟩ | ⟨h1, h2, e⟩ | ⟨h1, h2, e⟩ | ⟨h, e⟩
  · have H := Lib.hid e; clear e
    have n1 : ((n : Int) < 128) := by omega
    go_enter Tryd.func70, Tryd.ntmps70
    go_wp2
    go_ret2
    rw [H.out]; exact ⟨rfl, rfl⟩
  · have H := Lib.hid e; clear e
    have r1 : inR n 192 223 = true := inR_yes (by omega)
    have n1 : ¬ ((n : Int) < 128) := by omega
    clear h1 h2
    go_enter Tryd.func70, Tryd.ntmps70
    go_wp2_with (go_at_call 48; refine (l01In_any _ _ _ _).mono ?_; rintro e w' ⟨rfl, rfl⟩)
    go_ret2
    rw [H.out]; exact ⟨rfl, rfl⟩
  · have H := Lib.hid e; clear e
    have r1 : inR n 192 223 = false := inR_no (by omega)
    have r2 : inR n 224 239 = true := inR_yes (by omega)
    have n1 : ¬ ((n : Int) < 128) := by omega
    clear h1 h2
    go_enter Tryd.func70, Tryd.ntmps70
    go_wp2_with (go_at_call 48; refine (l01In_any _ _ _ _).mono ?_; rintro e w' ⟨rfl, rfl⟩)
    go_ret2
    rw [H.out]; exact ⟨rfl, rfl⟩
  · have H := Lib.hid e; clear e
    have r1 : inR n 192 223 = false := inR_no (by omega)
    have r2 : inR n 224 239 = false := inR_no (by omega)
    have r3 : inR n 240 247 = true := inR_yes (by omega)
    have n1 : ¬ ((n : Int) < 128) := by omega
    clear h1 h2
    go_enter Tryd.func70, Tryd.ntmps70
    go_wp2_with (go_at_call 48; refine (l01In_any _ _ _ _).mono ?_; rintro e w' ⟨rfl, rfl⟩)
    go_ret2
    rw [H.out]; exact ⟨rfl, rfl⟩
  · have H := Lib.hid e; clear e
    have r1 : inR n 192 223 = false := inR_no (by omega)
    have r2 : inR n 224 239 = false := inR_no (by omega)
    have r3 : inR n 240 247 = false := inR_no (by omega)
    have n1 : ¬ ((n : Int) < 128) := by omega
    clear h
    go_enter Tryd.func70, Tryd.ntmps70
    go_wp2_with (go_at_call 48; refine (l01In_any _ _ _ _).mono ?_; rintro e w' ⟨rfl, rfl⟩)
    go_ret2
    rw [H.out]; exact ⟨rfl, rfl⟩

/-- PutSign, of any number -/
def putSign (n : Int) : List UInt8 := if n < 0 then [] else utf n.toNat
theorem putSign_nat (n : Nat) : putSign n = utf n := by unfold putSign; rw [if_neg (by omega)]; simp
theorem putSign_far {n : Int} (h : ¬ (0 ≤ n ∧ n ≤ 1114111)) : putSign n = [] := by
  unfold putSign; by_cases h0 : n < 0
  · rw [if_pos h0]
  · rw [if_neg h0]; unfold utf; rw [if_pos (by omega)]
theorem putSign_sur {n : Int} (h : 55296 ≤ n ∧ n ≤ 57343) : putSign n = [] := by
  unfold putSign; rw [if_neg (by omega)]; unfold utf; rw [if_pos (by omega)]

set_option maxHeartbeats 400000 in
set_option maxRecDepth 10000 in
theorem putSign_spec (n : Int) (w : World) (hn : i64ok n) :
    Calls Tryd.prog 71 #[.int .i64 n] w fun e w' => e = .returned (.string ⟨(putSign n).toArray⟩) ∧ Below w.heap.size w w' := by
  obtain ⟨hn1, hn2⟩ := hn
  by_cases hr : 0 ≤ n ∧ n ≤ 1114111
  · have r1 : inR n 0 1114111 = true := inR_yes hr
    by_cases hs : 55296 ≤ n ∧ n ≤ 57343
    · have r2 : inR n 55296 57343 = true := inR_yes hs
      have H := Lib.hid (putSign_sur hs)
      clear hr hs
      go_enter Tryd.func71, Tryd.ntmps71
      go_wp2_with (go_at_call 48; refine (l01In_any _ _ _ _).mono ?_; rintro e w' ⟨rfl, rfl⟩)
      go_ret
      exact ⟨ret_str H.out.symm, Below.refl _ _⟩
    · have r2 : inR n 55296 57343 = false := inR_no hs
      obtain ⟨hr1, hr2⟩ := hr
      have hcv1 := fun b c w => conv1 (P := Tryd.prog) Tryd.underlying22 Tryd.underlying5 Tryd.underlying9 b c w
      have hcv2 := fun b c w => conv2 (P := Tryd.prog) Tryd.underlying22 Tryd.underlying5 Tryd.underlying9 b c w
      have hcv3 := fun b c w => conv3 (P := Tryd.prog) Tryd.underlying22 Tryd.underlying5 Tryd.underlying9 b c w
      have hcv4 := fun b c w => conv4 (P := Tryd.prog) Tryd.underlying22 Tryd.underlying5 Tryd.underlying9 b c w
      by_cases c1 : n < 128
      · have H : Hid (putSign n = [byteOf n.toNat]) := by
          show _ = _; unfold putSign; rw [if_neg (by omega)]; unfold utf; rw [if_neg (by omega), if_pos (by omega)]
        clear hs
        go_enter Tryd.func71, Tryd.ntmps71
        go_wp2_with (go_at_call 48; refine (l01In_any _ _ _ _).mono ?_; rintro e w' ⟨rfl, rfl⟩)
        go_ret
        exact ⟨ret_str H.out.symm, (Below.refl _ _).alloc (Nat.le_refl _) _⟩
      · by_cases c2 : n < 2048
        · have H : Hid (putSign n =  [byteOf (192 + n.toNat / 64), byteOf (128 + n.toNat % 64)]) := by
            show _ = _; unfold putSign; rw [if_neg (by omega)]; unfold utf; rw [if_neg (by omega), if_neg (by omega), if_pos (by omega)]
          clear hs
          go_enter Tryd.func71, Tryd.ntmps71
          go_wp2_with (go_at_call 48; refine (l01In_any _ _ _ _).mono ?_; rintro e w' ⟨rfl, rfl⟩)
          go_ret
          refine ⟨ret_str ?_, (Below.refl _ _).alloc (Nat.le_refl _) _⟩
          rw [H.out]; try rfl
          simp only [List.cons.injEq, and_true]
          exact ⟨congrArg byteOf (by omega), congrArg byteOf (by omega)⟩
        · by_cases c3 : n < 65536
          · have H : Hid (putSign n = [byteOf (224 + n.toNat / 4096), byteOf (128 + n.toNat / 64 % 64), byteOf (128 + n.toNat % 64)]) := by
              show _ = _; unfold putSign; rw [if_neg (by omega)]; unfold utf; rw [if_neg (by omega), if_neg (by omega), if_neg (by omega), if_pos (by omega)]
            clear hs
            go_enter Tryd.func71, Tryd.ntmps71
            go_wp2_with (go_at_call 48; refine (l01In_any _ _ _ _).mono ?_; rintro e w' ⟨rfl, rfl⟩)
            go_ret
            refine ⟨ret_str ?_, (Below.refl _ _).alloc (Nat.le_refl _) _⟩
            rw [H.out]; try rfl
            simp only [List.cons.injEq, and_true]
            exact ⟨congrArg byteOf (by omega), congrArg byteOf (by omega), congrArg byteOf (by omega)⟩
          · have H : Hid (putSign n = [byteOf (240 + n.toNat / 262144), byteOf (128 + n.toNat / 4096 % 64), byteOf (128 + n.toNat / 64 % 64), byteOf (128 + n.toNat % 64)]) := by
              show _ = _; unfold putSign; rw [if_neg (by omega)]; unfold utf; rw [if_neg (by omega), if_neg (by omega), if_neg (by omega), if_neg (by omega)]
            clear hs
            go_enter Tryd.func71, Tryd.ntmps71
            go_wp2_with (go_at_call 48; refine (l01In_any _ _ _ _).mono ?_; rintro e w' ⟨rfl, rfl⟩)
            go_ret
            refine ⟨ret_str ?_, (Below.refl _ _).alloc (Nat.le_refl _) _⟩
            rw [H.out]; try rfl
            simp only [List.cons.injEq, and_true]
            exact ⟨congrArg byteOf (by omega), congrArg byteOf (by omega), congrArg byteOf (by omega), congrArg byteOf (by omega)⟩
  · have r1 : inR n 0 1114111 = false := inR_no hr
    have H := Lib.hid (putSign_far hr)
    clear hr
    go_enter Tryd.func71, Tryd.ntmps71
    go_wp2_with (go_at_call 48; refine (l01In_any _ _ _ _).mono ?_; rintro e w' ⟨rfl, rfl⟩)
    go_ret
    exact ⟨ret_str H.out.symm, Below.refl _ _⟩

set_option maxHeartbeats 1000000 in
set_option maxRecDepth 10000 in
theorem getSign_spec (l : List UInt8) (i : Int) (w : World) (hi : i64ok i) (hl : l.length ≤ 4611686018427387904) :
    Calls Tryd.prog 64 #[.string ⟨l.toArray⟩, .int .i64 i] w fun e w' => e = .returned (.tuple #[.int .i64 (signAt l i).1, .int .i64 (signAt l i).2]) ∧ Below w.heap.size w w' := by
  obtain ⟨hi1, hi2⟩ := hi
  by_cases hr : 0 ≤ i ∧ i < l.length
  · obtain ⟨k, rfl⟩ : ∃ k : Nat, i = k := ⟨i.toNat, by omega⟩
    have hk : k < l.length := by omega
    have hk1 : (0 : Int) ≤ k := by omega
    have hk2 : (k : Int) < l.length := by omega
    have hS := sgn_many l[k] (l.drop (k + 1))
    rw [← List.drop_eq_getElem_cons hk] at hS
    have hbd := many_bd l[k].toNat l[k].toNat_lt
    obtain ⟨hbd1, hbd2⟩ := hbd
    have HC := Lib.hid (l01Many_any l[k])
    obtain ⟨m, hm⟩ : ∃ m, (many l[k].toNat).1 = m := ⟨_, rfl⟩
    obtain ⟨v0, hv⟩ : ∃ v, (many l[k].toNat).2 = v := ⟨_, rfl⟩
    rw [hm] at hbd1 hS
    rw [hv] at hbd2 hS
    have HC : Hid (∀ w, Calls Tryd.prog 70 #[.int .i64 (l[k].toNat : Nat)] w fun e w' => e = .returned (.tuple #[.int .i64 (m : Nat), .int .i64 (v0 : Nat)]) ∧ w = w') := by
      intro w; rw [← hm, ← hv]; exact HC.out w
    clear hm hv hr
    by_cases hA : m = 0 ∨ (l.drop (k + 1)).length + 1 < m
    · rw [if_pos (.inl hA)] at hS
      have H := Lib.hid (signAt_none hS)
      clear hS
      rw [List.length_drop] at hA
      by_cases hA0 : m = 0
      · subst hA0
        go_enter Tryd.func64, Tryd.ntmps64
        go_wp2_with (go_at_call 70; refine (HC.out _).mono ?_; rintro e w1 ⟨rfl, rfl⟩)
        go_ret2
        rw [H.out]; exact ⟨rfl, Below.refl _ _⟩
      · have hA1 : (l.length : Int) - k < m := by omega
        have hA2 : ((m : Int) == 0) = false := by simpa using hA0
        clear hA hA0
        go_enter Tryd.func64, Tryd.ntmps64
        go_wp2_with (go_at_call 70; refine (HC.out _).mono ?_; rintro e w1 ⟨rfl, rfl⟩)
        go_ret2
        rw [H.out]; exact ⟨rfl, Below.refl _ _⟩
    · have hA0 : 1 ≤ m := by omega
      have hA1 : k + m ≤ l.length := by rw [List.length_drop] at hA; omega
      have hA2 : ((m : Int) == 0) = false := by simp; omega
      have hA3 : ¬ (l.length : Int) - k < m := by omega
      have hle : ((l.drop (k + 1)).length : Nat) = l.length - (k + 1) := List.length_drop
      have HS := Lib.hid hS
      have HA := Lib.hid hA
      have HL := Lib.hid hle
      clear hA hS hle
      go_enter Tryd.func64, Tryd.ntmps64
      go_wp2_with (go_at_call 70; refine (HC.out _).mono ?_; rintro e w1 ⟨rfl, rfl⟩)
      go_loop [7, 8] (fun x i => ∃ (j : Nat), j + 1 ≤ m ∧ i = .int .i64 ((j + 1 : Nat) : Int) ∧ x = .int .i64 (sgnV v0 ((l.drop (k + 1)).take j))) (fun _ i => 5 - (RowKit.intOf i).toNat)
      case atStart => exact ⟨0, by omega, rfl, by simp [sgnV]⟩
      case round =>
        obtain ⟨j, hj, rfl, rfl⟩ := hrel
        by_cases hlt : j + 1 < m
        · have hjl : j < (l.drop (k + 1)).length := by have := HL.out; omega
          have HN := Lib.hid (sgnV_snoc v0 (l.drop (k + 1)) j hjl)
          have hb := sgnV_bd v0 (l.drop (k + 1)) j hbd2 (by omega)
          have hget : (l.drop (k + 1))[j] = l[k + (j + 1)]'(by have := HL.out; omega) := by rw [List.getElem_drop]; congr 1; omega
          rw [hget] at HN
          have hk4 : k + (j + 1) < l.length := by omega
          have e1 : ((k : Int) + (j + 1 : Nat)).toNat = k + (j + 1) := by omega
          obtain ⟨x, hx⟩ : ∃ x, sgnV v0 ((l.drop (k + 1)).take j) = x := ⟨_, rfl⟩
          rw [hx] at HN hb ⊢
          have HX := Lib.hid hx; clear hx
          go_wp2
          go_round
          case rel =>
            refine ⟨j + 1, by omega, by go_num, ?_⟩
            rw [HN.out]; go_num
          case measure => simp [RowKit.intOf] <;> omega
        · obtain rfl : m = j + 1 := by omega
          have hb := sgnV_bd v0 (l.drop (k + 1)) j hbd2 (by omega)
          have HS2 := HS.out
          have hpre : ¬ ((j + 1 = 0) ∨ (l.drop (k + 1)).length + 1 < j + 1) := HA.out
          simp only [hpre, false_or, Nat.add_sub_cancel] at HS2
          have HS2 := Lib.hid HS2
          clear hpre
          go_wp2
          obtain ⟨x, hx⟩ : ∃ x, sgnV v0 ((l.drop (k + 1)).take j) = x := ⟨_, rfl⟩
          rw [hx] at hb HS2
          have HX := Lib.hid hx
          simp only [hx]
          clear hx HS
          have hB := Below.refl w.heap.size w
          have z1 : IntKind.i64.wrap ((k : Int) + (↑j + 1)) = (k : Int) + (↑j + 1) := IntWalk.i64_in _ (by omega)
          have z2 : (0 : Int) ≤ (k : Int) + (↑j + 1) := by omega
          have z3 : (k : Int) ≤ (k : Int) + (↑j + 1) := by omega
          have z4 : (k : Int) + (↑j + 1) ≤ l.length := by omega
          have z5 : ((k : Int) + (↑j + 1)).toNat = k + (j + 1) := by omega
          have hxo : i64ok x := ⟨by omega, by omega⟩
          go_region_held3 (fun W => Below w.heap.size w W) (first | exact hB | exact hB.drew)
            (first | (go_at_call 71; refine (putSign_spec x _ hxo).mono ?_; rintro e w2 ⟨rfl, hb2⟩; replace hB := below2 (by first | exact hB | exact hB.drew) hb2 (Nat.le_refl _)))
          go_wp2
          · have he : (!putSign ↑x == List.take (j + 1) (List.drop k l)) = true := by assumption
            rw [putSign_nat] at he
            have h2 := HS2.out
            rw [if_pos (by simpa using he)] at h2
            go_ret2
            rw [signAt_none h2]; exact ⟨rfl, hB⟩
          · have he : (!putSign ↑x == List.take (j + 1) (List.drop k l)) = false := by assumption
            rw [putSign_nat] at he
            have h2 := HS2.out
            rw [if_neg (by simpa using he)] at h2
            go_ret2
            rw [signAt_some hk h2]; exact ⟨by simp, hB⟩
  · have H := Lib.hid (signAt_far hr)
    by_cases h0 : i < 0
    · clear hr
      go_enter Tryd.func64, Tryd.ntmps64
      go_wp2
      go_ret2
      rw [H.out]; exact ⟨rfl, Below.refl _ _⟩
    · have h1 : ¬ i < l.length := by omega
      clear hr
      go_enter Tryd.func64, Tryd.ntmps64
      go_wp2
      go_ret2
      rw [H.out]; exact ⟨rfl, Below.refl _ _⟩
end Go.Proofs.YthngfihpnfoppaaDoor

namespace Go.Proofs.YthngfihpnfoppaaDoor
open Go.RowKit Go.Lib

theorem tyI : ElemTy Tryd.prog 41 3 1 8 := ElemTy.mk' Tryd.underlying41 (z := .int .i64 0) (by kernel_rfl) rfl (by decide)

theorem signAt_bd {l : List UInt8} {k : Nat} (_ : k ≤ l.length) : -1 ≤ (signAt l k).1 ∧ (signAt l k).1 ≤ 1114111 ∧ -1 ≤ (signAt l k).2 ∧ (signAt l k).2 ≤ l.length := by
  unfold signAt; split
  · rename_i h
    rw [Int.toNat_natCast]
    cases hs : sgn (l.drop k) with
    | none => simp; try omega
    | some r =>
      obtain ⟨n, m⟩ := r
      have := sgn_bd hs
      simp [List.length_drop] at this ⊢; omega
  · simp; try omega
theorem signAt_step {l : List UInt8} {k : Nat} (hk : k < l.length) : ((signAt l k).2 < 0 ∧ validD (l.drop k) = false) ∨ (∃ m : Nat, (signAt l k).2 = (k + m : Nat) ∧ 1 ≤ m ∧ k + m ≤ l.length ∧ validD (l.drop k) = validD (l.drop (k + m))) := by
  have hne : l.drop k ≠ [] := by simp; omega
  have hv := validD_sgn (l.drop k) hne
  cases hs : sgn (l.drop k) with
  | none => rw [hs] at hv; left; rw [signAt_none hs]; exact ⟨by simp, hv⟩
  | some r =>
    obtain ⟨n, m⟩ := r
    have := sgn_bd hs
    rw [hs] at hv; right; rw [signAt_some hk hs]; simp [List.length_drop, List.drop_drop] at this hv ⊢
    exact ⟨m, rfl, by omega, by omega, hv⟩

set_option maxHeartbeats 1000000 in
set_option maxRecDepth 10000 in
theorem signs_spec (l : List UInt8) (w : World) (hl : l.length ≤ 4294967295) :
    Calls Tryd.prog 59 #[.string ⟨l.toArray⟩] w fun e w' => (∃ a n c, e = .returned (.slice a n c) ∧ n ≤ 4294967295 ∧ (l ≠ [] → (decide (0 < n)) = validD l)) ∧ Below w.heap.size w w' := by
  obtain ⟨ok, hok⟩ : ∃ ok, validD l = ok := ⟨_, rfl⟩
  rw [hok]
  go_enter Tryd.func59, Tryd.ntmps59
  go_wp2
  go_loopw [3, 4] (fun v i wr => ∃ (k : Nat) (xs : List Value), k ≤ l.length ∧ i = .int .i64 k ∧ OwnR wr w.heap.size 3 v xs ∧ xs.length ≤ k ∧ (0 < k → 0 < xs.length) ∧ validD (l.drop k) = ok ∧ Below w.heap.size w wr) (fun _ i _ => l.length - (RowKit.intOf i).toNat)
  case atStart => exact ⟨0, [], Nat.zero_le _, rfl, OwnR.start, by simp, by simp, by simpa using hok, (Below.refl _ _).alloc (Nat.le_refl _) _⟩
  case round =>
    obtain ⟨k, xs, hk, rfl, hown, hx1, hx2, hv, hbel⟩ := hrel
    have HV := Lib.hid hv; clear hv hok
    have hsz := hbel.size
    obtain ⟨a, c, rfl⟩ := hown.any
    by_cases hlt : k < l.length
    · have hki : i64ok k := ⟨by omega, by omega⟩
      have HB := signAt_bd (l := l) (k := k) hk
      have HS := Lib.hid (signAt_step hlt)
      obtain ⟨p, hp⟩ : ∃ p, signAt l k = p := ⟨_, rfl⟩
      have HC : Hid (∀ w, Calls Tryd.prog 64 #[.string ⟨l.toArray⟩, .int .i64 k] w fun e w' => e = .returned (.tuple #[.int .i64 p.1, .int .i64 p.2]) ∧ Below w.heap.size w w') := by
        intro w; rw [← hp]; exact getSign_spec l k w hki (by omega)
      rw [hp] at HB HS
      clear hp
      obtain ⟨p1, p2⟩ := p
      simp only at HB HS HC
      obtain ⟨HB1, HB2, HB3, HB4⟩ := HB
      by_cases hneg : p2 < 0
      · have hf : ok = false := by
          rcases HS.out with ⟨_, h2⟩ | ⟨m, h1, _⟩
          · rw [← HV.out, h2]
          · omega
        have HF := Lib.hid hf
        clear hf
        go_wp2_with (go_at_call 64; refine (HC.out _).mono ?_; rintro e w1 ⟨rfl, hb1⟩)
        go_ret
        exact ⟨⟨_, _, _, rfl, by simp, fun _ => by rw [HF.out]; rfl⟩, (below2 hbel hb1 (Nat.le_refl _)).alloc (Nat.le_trans hsz hb1.size) _⟩
      · obtain ⟨m, hm1, hm2, hm3, hm4⟩ : ∃ m : Nat, p2 = (k + m : Nat) ∧ 1 ≤ m ∧ k + m ≤ l.length ∧ validD (l.drop k) = validD (l.drop (k + m)) := by
          rcases HS.out with ⟨h1, _⟩ | h
          · omega
          · exact h
        subst hm1
        have HM := Lib.hid hm4
        clear hm4
        go_wp2_with (first | (go_at_call 64; refine (HC.out _).mono ?_; rintro e w1 ⟨rfl, hb1⟩) | (at_builtin; refine wp_appR (ys := [.int .i64 p1]) tyI rfl rfl w.heap.size ((hown.below hb1).alloc _) rfl ⟨w1.heap.size, 0, none⟩ 1 rfl (cell_one_new _ _ _) (by simp [Value.oneCell']) (by simp; omega) (by decide) (by have := hb1.size; simp; omega) ?_))
        intro v' w2 hown1 hgr _
        have hbel1 := OwnR.grown ((hown.below hb1).alloc _) ((below2 hbel hb1 (Nat.le_refl _)).alloc (Nat.le_trans hsz hb1.size) _) hgr (by have := hb1.size; simp; omega)
        clear hown hbel
        go_wp2
        go_roundw
        case rel => exact ⟨k + m, _, hm3, by go_num, hown1, by simp; omega, by simp, by rw [← HM.out]; exact HV.out, hbel1⟩
        case measure => simp [RowKit.intOf]; omega
    · obtain rfl : k = l.length := by omega
      have h1 := HV.out
      rw [List.drop_length] at h1
      have HF := Lib.hid h1
      clear h1
      go_wp2
      go_ret
      exact ⟨⟨_, _, _, rfl, by omega, fun hne => by rw [← HF.out, decide_eq_true (hx2 (List.length_pos_iff.2 hne))]; rfl⟩, hbel⟩

theorem isEmpty_of {l : List UInt8} (h : l ≠ []) : l.toArray.toList.isEmpty = false := by simp [h]
set_option maxRecDepth 10000 in
theorem textOk_spec (l : List UInt8) (w : World) (hl : l.length ≤ 4294967295) :
    Calls Tryd.prog 50 #[.string ⟨l.toArray⟩] w fun e w' => e = .returned (.bool (validD l)) ∧ Below w.heap.size w w' := by
  by_cases h : l = []
  · subst h
    go_enter Tryd.func50, Tryd.ntmps50
    go_wp2
    go_ret
    exact ⟨rfl, Below.refl _ _⟩
  · have HC := Lib.hid (signs_spec l w hl)
    have h1 : l.isEmpty = false := by simpa using h
    have HN := Lib.hid h
    clear h
    go_enter Tryd.func50, Tryd.ntmps50
    go_wp2_with (go_at_call 59; refine HC.out.mono ?_; rintro e w1 ⟨⟨a, n, c, rfl, hn, hv⟩, hb1⟩; have HV := Lib.hid (hv HN.out); clear hv)
    go_ret
    exact ⟨by rw [← HV.out]; rfl, hb1⟩
end Go.Proofs.YthngfihpnfoppaaDoor

namespace Go.Proofs.YthngfihpnfoppaaDoor
open Go.RowKit
open Go.Lib (validD)

/-- the two tables of UTF-8 hold what they should -/
def Tabs (w : World) : Prop := Lib.Utf8Tabs 0 1 w
theorem Tabs.below {w w' : World} (h : Tabs w) (hb : Below w.heap.size w w') : Tabs w' := Utf8Tabs_below h hb
theorem Tabs.lt {w : World} (h : Tabs w) : 0 < w.heap.size ∧ 1 < w.heap.size := by
  have key : ∀ {b o : Nat} {v : Value}, w.cell? ⟨b, o, none⟩ = some v → b < w.heap.size := by
    intro b o v h; apply Classical.byContradiction; intro hn
    simp [World.cell?, Array.getElem?_eq_none (Nat.le_of_not_lt hn)] at h
  exact ⟨key (h.1 0 (by decide)), key (h.2 0 (by decide)).1⟩
theorem Tabs.below' {B : Nat} {w w' : World} (h : Tabs w) (hb : Below B w w') (h1 : 0 < B) (h2 : 1 < B) : Tabs w' := by
  refine ⟨fun c hc => ?_, fun i hi => ?_⟩
  · rw [hb.cell (p := ⟨_, _, none⟩) h1]; exact h.1 c hc
  · rw [hb.cell (p := ⟨_, _, none⟩) h2, hb.cell (p := ⟨_, _, none⟩) h2]; exact h.2 i hi
theorem Tabs.alloc {w : World} (h : Tabs w) (o : Obj) : Tabs (w.alloc o) := h.below ((Below.refl _ _).alloc (Nat.le_refl _) o)
theorem Tabs.drew {w : World} (h : Tabs w) : Tabs w.drew := h.below ((Below.refl _ _).drew)

theorem textOk_impl (l : List UInt8) (w : World) (hl : l.length ≤ 4294967295) (hT : Tabs w) :
    Calls Tryd.prog 53 #[.string ⟨l.toArray⟩] w fun e w' => e = .returned (.bool (validD l)) ∧ Below w.heap.size w w' := by
  have HC := Lib.hid (Tryd.utf8_ValidString ⟨l.toArray⟩ w (by simp [ByteArray.size]; omega) hT)
  go_enter Tryd.func53, Tryd.ntmps53
  go_wp2_with (go_at_call 61; refine HC.out.mono ?_; rintro e w1 ⟨rfl, hb1⟩)
  go_ret
  exact ⟨rfl, hb1⟩
end Go.Proofs.YthngfihpnfoppaaDoor

namespace Go.Proofs.YthngfihpnfoppaaDoor
open Go.RowKit
def PTab (w : World) : Prop := Tabs w ∧ TenTab w
theorem PTab.below {w w' : World} (h : PTab w) (hb : Below w.heap.size w w') : PTab w' := ⟨h.1.below hb, h.2.below hb⟩
end Go.Proofs.YthngfihpnfoppaaDoor

namespace Go.Proofs.YthngfihpnfoppaaDoor
open Go.RowKit

def valBox (w : World) (g : Nat) (k n e : Int) (s : List UInt8) (v : Value) : Prop := w.heap[g]? = some (.cells #[.int .i64 k, .int .i64 n, .int .i64 e, .string ⟨s.toArray⟩, v] 26 (0, 0))
theorem valBox.lt {w : World} {g : Nat} {k n e : Int} {s : List UInt8} {v : Value} (h : valBox w g k n e s v) : g < w.heap.size := heap_lt h
theorem valBox.cells {w : World} {g : Nat} {k n e : Int} {s : List UInt8} {v : Value} (h : valBox w g k n e s v) : w.cell? ⟨g, 0, none⟩ = some (.int .i64 k) ∧ w.cell? ⟨g, 1, none⟩ = some (.int .i64 n) ∧ w.cell? ⟨g, 2, none⟩ = some (.int .i64 e) ∧ w.cell? ⟨g, 3, none⟩ = some (.string ⟨s.toArray⟩) ∧ w.cell? ⟨g, 4, none⟩ = some v := by
  refine ⟨?_, ?_, ?_, ?_, ?_⟩ <;> (rw [cell_of_block h]; rfl)
theorem valBox.free {w : World} {g : Nat} {k n e : Int} {s : List UInt8} {v : Value} (h : valBox w g k n e s v) (o : Nat) : w.frozen? ⟨g, o, none⟩ = false := by simp [World.frozen?, show w.heap[g]? = _ from h]
theorem valBox.same {w w' : World} {g : Nat} {k n e : Int} {s : List UInt8} {v : Value} (h : valBox w g k n e s v) (hs : w'.heap[g]? = w.heap[g]?) : valBox w' g k n e s v := hs.trans h
theorem valBox.below {B : Nat} {w w' : World} {g : Nat} {k n e : Int} {s : List UInt8} {v : Value} (h : valBox w g k n e s v) (hb : Below B w w') (hg : g < B) : valBox w' g k n e s v := h.same (hb.block g hg)
theorem valBox.new {w : World} {k n e : Int} {s : List UInt8} {v : Value} : valBox (w.alloc (.cells #[.int .i64 k, .int .i64 n, .int .i64 e, .string ⟨s.toArray⟩, v] 26)) w.heap.size k n e s v := heap_alloc_new w _
theorem valBox.alloc {w : World} {g : Nat} {k n e : Int} {s : List UInt8} {v : Value} (h : valBox w g k n e s v) (o : Obj) : valBox (w.alloc o) g k n e s v := h.same (Below.heap_alloc _ _ _ h.lt)
theorem valBox.set4 {w : World} {g : Nat} {k n e : Int} {s : List UInt8} {v : Value} (h : valBox w g k n e s v) (u : Value) : valBox (w.setCell ⟨g, 4, none⟩ u) g k n e s u := by
  have := heap_setCell_at (o := 4) h u
  exact this
/-- from block B on anything may be new, and block g below it may be written -/
theorem Keep.belowB {S : Nat → Prop} {a b c : World} {B : Nat} (h : Keep S a b) (k : Below B b c) (hB : a.heap.size ≤ B) : Keep S a c :=
  ⟨k.os.trans h.os, k.tape.trans h.tape, k.output.trans h.output, Nat.le_trans h.size k.size, fun i hi hs => (k.block i (Nat.lt_of_lt_of_le hi hB)).trans (h.block i hi hs)⟩
end Go.Proofs.YthngfihpnfoppaaDoor

namespace Go.Proofs.YthngfihpnfoppaaDoor
open Go.RowKit

theorem RepCs.append {S : Nat → Prop} {w : World} : ∀ {ds es : List D} {c1 c2 : List Value}, RepCs S w ds c1 → RepCs S w es c2 → RepCs S w (ds ++ es) (c1 ++ c2)
  | [], es, c1, c2, h, k => by simp only [RepCs] at h; subst h; exact k
  | d :: ds, es, c1, c2, h, k => by
    simp only [RepCs] at h; obtain ⟨e1, e2, rfl, hl, h1, h2⟩ := h
    simp only [List.cons_append, RepCs]
    exact ⟨e1, e2 ++ c2, by simp, hl, h1, RepCs.append h2 k⟩
theorem RepCs.one {S : Nat → Prop} {w : World} {d : D} {c : List Value} (h : RepC S w d c) : RepCs S w [d] c := by
  simp only [RepCs]; exact ⟨c, [], by simp, h.len, h, rfl⟩

section
variable {H : Type} {enc : TypeId × Value → H} {P : Program} {w : World} {base : Nat} {spare : Nat → Bool} {held : Bool}

/-- a slice, its elements' reading given -/
theorem trod_sl {α : Type} {t e : TypeId} {n0 : Nat} {f : α → D} {ok : α → Prop} (ht : P.underlying t = some (.slice e)) (hc : P.cellsOf e = n0) (hn : 0 < n0) (hw : ∀ x, D.width (f x) = n0)
    {fuel : Nat} (helem : ∀ n cs y, n < fuel → DataW.trod enc P w base spare held n e cs = some y → ∃ x : α, Rd w (f x) cs ∧ ok x)
    {cs : List Value} {y : DataW H × List MemPlace} (h : DataW.trod enc P w base spare held fuel t cs = some y) :
    ∃ (xs : List α) (v : Value), cs = [v] ∧ Rd w (.sl n0 (xs.map f)) [v] ∧ (∀ x ∈ xs, ok x) ∧ xs.length ≤ maxLen := by
  rcases DataW.trod_slice ht h with ⟨rfl, _⟩ | ⟨a, len, cap, elems, rest, n, hfu, rfl, _, _, hl, hm, hlen, hel, _, _⟩
  · exact ⟨[], _, rfl, by simp [Rd, RepC], by simp, by simp⟩
  · have key : ∀ k, k ≤ len → ∃ (xs : List α) (flat : List Value), xs.length = k ∧ flat.length = n0 * k ∧ RepCs (· < w.heap.size) w (xs.map f) flat ∧ (∀ x ∈ xs, ok x) ∧ ∀ (j : Nat) u, flat[j]? = some u → w.cell? (a.add j) = some u := by
      intro k
      induction k with
      | zero => intro _; exact ⟨[], [], rfl, rfl, by simp [RepCs], by simp, by simp⟩
      | succ k ih =>
        intro hk
        obtain ⟨xs, flat, h1, h2, h3, h4, h5⟩ := ih (by omega)
        have hek := hel k (by omega)
        rw [List.getElem?_eq_getElem (by omega)] at hek
        cases hcs : w.cells? base (a.add (k * P.cellsOf e)) (P.cellsOf e) with
        | none => rw [hcs] at hek; simp at hek
        | some cs' =>
          rw [hcs, Option.bind_some] at hek
          obtain ⟨x, hx1, hx2⟩ := helem n _ _ (by omega) hek
          obtain ⟨_, hcl, hcc⟩ := World.cells?_some hcs
          refine ⟨xs ++ [x], flat ++ cs', by simp [h1], by rw [List.length_append, h2, hcl, hc, Nat.mul_succ], ?_, ?_, ?_⟩
          · rw [List.map_append]; exact RepCs.append h3 (RepCs.one hx1)
          · intro z hz; rcases List.mem_append.1 hz with hz | hz
            · exact h4 z hz
            · simp at hz; subst hz; exact hx2
          · intro j u hj
            by_cases hjl : j < flat.length
            · rw [List.getElem?_append_left hjl] at hj; exact h5 j u hj
            · rw [List.getElem?_append_right (by omega)] at hj
              have hjn : j - flat.length < cs'.length := by
                rcases Nat.lt_or_ge (j - flat.length) cs'.length with h | h
                · exact h
                · simp [List.getElem?_eq_none h] at hj
              have := hcc (j - flat.length) (by omega)
              rw [Addr.add_add, hc, h2, Nat.mul_comm k n0, show n0 * k + (j - n0 * k) = j by omega] at this
              rw [this, ← h2]; exact hj
    obtain ⟨xs, flat, h1, h2, h3, h4, h5⟩ := key len (Nat.le_refl _)
    refine ⟨xs, _, rfl, ?_, h4, by omega⟩
    simp only [Rd, RepC]
    refine ⟨some a, cap, by simp [h1], fun hne => ?_⟩
    have hpos : 0 < len := by
      rcases Nat.eq_zero_or_pos len with h0 | h0
      · exfalso; apply hne; rw [List.map_eq_nil_iff, ← List.length_eq_zero_iff]; omega
      · exact h0
    have hfl : 0 < flat.length := by rw [h2]; exact Nat.mul_pos hn hpos
    have hc0 := h5 0 flat[0] (by simp)
    have hsp : a.spot = none := by
      have := World.cell?_spot hc0
      simpa [Addr.add] using this
    obtain ⟨b, o, s⟩ := a
    simp only at hsp
    subst hsp
    have hb : b < w.heap.size := by
      rw [add_plain] at hc0
      by_cases hlt : b < w.heap.size
      · exact hlt
      · simp [World.cell?, Array.getElem?_eq_none (Nat.not_lt.1 hlt)] at hc0
    refine ⟨hn, by simpa [h1] using hl, hm, b, o, flat, rfl, hb, fun j u hj => ?_, ?_, h3⟩
    · have := h5 j u hj; rwa [add_plain] at this
    · intro x hx; rw [List.mem_map] at hx; obtain ⟨z, _, rfl⟩ := hx; exact hw z

theorem trod_i64 {t : TypeId} (ht : P.underlying t = some (.int .i64)) {fuel : Nat} {cs : List Value} {y : DataW H × List MemPlace} (h : DataW.trod enc P w base spare held fuel t cs = some y) : ∃ n, cs = [.int .i64 n] ∧ i64ok n := by
  obtain ⟨n, h1, _, h2⟩ := DataW.trod_int ht h; exact ⟨n, h1, i64ok_wf h2⟩
theorem trod_str {t : TypeId} (ht : P.underlying t = some .string) {fuel : Nat} {cs : List Value} {y : DataW H × List MemPlace} (h : DataW.trod enc P w base spare held fuel t cs = some y) : ∃ l : List UInt8, cs = [.string ⟨l.toArray⟩] ∧ strok l := by
  obtain ⟨s, h1, _, h2⟩ := DataW.trod_string ht h
  exact ⟨s.data.toList, by simpa using h1, h2⟩
theorem trod_strs {t e : TypeId} (ht : P.underlying t = some (.slice e)) (he : P.underlying e = some .string) (hc : P.cellsOf e = 1)
    {fuel : Nat} {cs : List Value} {y : DataW H × List MemPlace} (h : DataW.trod enc P w base spare held fuel t cs = some y) : ∃ (ls : List (List UInt8)) (v : Value), cs = [v] ∧ Rd w (dSs ls) [v] ∧ (∀ s ∈ ls, strok s) ∧ ls.length ≤ maxLen :=
  trod_sl (f := dS) (ok := strok) ht hc (by decide) (fun _ => rfl) (fun n cs y _ h => by
    obtain ⟨l, rfl, hl⟩ := trod_str he h; exact ⟨l, by simp [Rd, dS, RepC], hl⟩) h
end
end Go.Proofs.YthngfihpnfoppaaDoor
