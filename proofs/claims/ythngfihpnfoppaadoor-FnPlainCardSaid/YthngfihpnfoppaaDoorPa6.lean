/- For all bytes of a code, FnPlain returns true and writes nothing that was there: what JSON holds of the value that the code draws stands in JSON, and is all of a value that does. -/
import Derived.Test.YthngfihpnfoppaaDoorPa5
import Derived.Test.YthngfihpnfoppaaDoorRows
import Derived.ProofKit
import Derived.HandedShaped
import Derived.Shelf.Vars
import Derived.Lay
import Derived.LaidMore
import Derived.Stop.Joined
import Derived.Lib.LaidU8T
import Derived.OpenShut
import Derived.ShutString
import Derived.ChangeOld
import Derived.Lib.SmallJoins
import Derived.Test.YthngfihpnfoppaaDoorTie
import Derived.Test.YthngfihpnfoppaaDoorCards
import Derived.SevenTiedAt
namespace Go.Proofs.YthngfihpnfoppaaDoor
open Go.RowKit
attribute [local irreducible] po mw pt

theorem PTab.low : Low ngl PTab := by
  intro w w' h hs hk
  have h1 : 2 < ngl := of_decide_eq_true (by unfold ngl; kernel_rfl)
  refine ⟨Tabs.low w w' h.1 hs hk, ?_⟩
  have ht := h.2
  unfold TenTab Lib.TabIs at ht ⊢
  unfold World.var? at ht ⊢
  simp only [tenG, Option.bind_some] at ht ⊢
  rw [hk _ h1]; exact ht
section
variable {T : World → Prop} {hT : Low ngl T}
section
variable {E : Env} {K : St → Prop} {tm : Nat → PV} {bx : List (List PC)} {nt d : Nat} {live : List Nat} {r : List MOpr} {g : Option (Nat × Bool)} {c : List X} {x y : X}
theorem po_neS {la lb : List UInt8} {f : Bool} {e : Bool} (hg : gd g tm = some true) (hx : ev tm x = .d (pS la)) (hy : ev tm y = .d (pS lb)) (he : decide (la ≠ lb) = e) (h : po E r K ⟨up d (.d (pB e)) tm, bx, nt, live⟩) : po E (⟨some d, .bin .neq f x y, g, c⟩ :: r) K ⟨tm, bx, nt, live⟩ := by
  refine po_q hg ?_ h
  subst he
  simp only [qf, hx, hy, pS]
  show some (PV.d (.v (.bool (!((ByteArray.mk la.toArray).toList == (ByteArray.mk lb.toArray).toList))))) = _
  rw [ByteArray.toList_eq, ByteArray.toList_eq]
  show some (PV.d (.v (.bool (!(la == lb))))) = some (PV.d (.v (.bool (decide (la ≠ lb)))))
  have e : (!(la == lb)) = decide (la ≠ lb) := by by_cases h : la = lb <;> simp [h]
  rw [e]
end
def SmP (T : World → Prop) (hT : Low ngl T) (N : Nat) : Prop := ∀ a b : V, a.nodes ≤ N → a.bulk ≤ 4294967295 → FnV (env T hT) 7 [.ag (vC a), .ag (vC b)] (.d (pB (decide (a = b))))
def SmL (a b : V) (m : Nat) (st : St) : Prop := ∃ i : Nat, i ≤ a.kids.length ∧ m = a.kids.length - i ∧ has st.tm [(2, .ref 0 0), (3, .ref 1 0), (5, .d (pI i))] ∧ st.bx = [vC a, vC b] ∧ a.kids.take i = b.kids.take i
theorem V.ext5 {a b : V} : a = b ↔ a.kind = b.kind ∧ a.num = b.num ∧ a.exp = b.exp ∧ a.text = b.text ∧ a.kids = b.kids := by
  obtain ⟨k, n, e, s, ks⟩ := a
  obtain ⟨k', n', e', s', ks'⟩ := b
  simp only [V.mk.injEq, V.kind, V.num, V.exp, V.text, V.kids]
set_option maxHeartbeats 1000000 in
theorem same_step {N : Nat} (ih : SmP T hT N) : SmP T hT (N + 1) := by
  intro a b hn hbk
  have hkl : a.kids.length + V.bulks a.kids ≤ 4294967295 := by
    obtain ⟨k, n, e, s, ks⟩ := a
    simp only [V.bulk] at hbk; show ks.length + V.bulks ks ≤ _; omega
  refine fn_of (look_env lk_l_same) (by show 2 ≤ 60; decide) fun B hB => ?_
  unfold m_l_same
  refine mw_seq (mw_ops ?_)
  refine po_box (cs := vC a) rfl ?_
  refine po_box (cs := vC b) rfl ?_
  repeat' (first | refine po_mv rfl (by conv => lhs; whnf) ?_ | refine po_s rfl rfl rfl ?_ | refine po_box rfl ?_ | refine po_zero ?_ | refine po_nil ?_)
  refine mw_cut (fun st => has st.tm [(2, .ref 0 0), (3, .ref 1 0)] ∧ st.bx = [vC a, vC b] ∧ a.kind = b.kind ∧ a.num = b.num ∧ a.exp = b.exp ∧ a.text = b.text ∧ a.kids.length = b.kids.length) ?_ ?_
  · refine mw_cut (fun st => has st.tm [(2, .ref 0 0), (3, .ref 1 0), (40, .d (pB (!(decide (a.kind = b.kind ∧ a.num = b.num ∧ a.exp = b.exp ∧ a.text = b.text ∧ a.kids.length = b.kids.length)))))] ∧ st.bx = [vC a, vC b]) ?_ ?_
    · refine mw_ops ?_
      iterate 4 (first | refine po_mv rfl (by conv => lhs; whnf) ?_ | refine po_s rfl rfl rfl ?_)
      by_cases h0 : a.kind = b.kind
      case neg =>
        refine po_yes rfl rfl (bne_iff_ne.2 h0) ?_
        first | refine po_mv rfl (by conv => lhs; whnf) ?_ | refine po_s rfl rfl rfl ?_
        iterate 5 (refine po_skip rfl ?_)
        iterate 2 (first | refine po_mv rfl (by conv => lhs; whnf) ?_ | refine po_s rfl rfl rfl ?_)
        iterate 5 (refine po_skip rfl ?_)
        iterate 2 (first | refine po_mv rfl (by conv => lhs; whnf) ?_ | refine po_s rfl rfl rfl ?_)
        iterate 5 (refine po_skip rfl ?_)
        iterate 2 (first | refine po_mv rfl (by conv => lhs; whnf) ?_ | refine po_s rfl rfl rfl ?_)
        iterate 7 (refine po_skip rfl ?_)
        repeat' (first | refine po_mv rfl (by conv => lhs; whnf) ?_ | refine po_s rfl rfl rfl ?_ | refine po_box rfl ?_ | refine po_zero ?_ | refine po_nil ?_)
        exact ⟨⟨rfl, rfl, by rw [decide_eq_false (by omega)]; rfl, trivial⟩, rfl⟩
      refine po_no rfl rfl (by rw [h0]; exact bne_self_eq_false _) ?_
      first | refine po_mv rfl (by conv => lhs; whnf) ?_ | refine po_s rfl rfl rfl ?_
      iterate 4 (first | refine po_mv rfl (by conv => lhs; whnf) ?_ | refine po_s rfl rfl rfl ?_)
      by_cases h1 : a.num = b.num
      case neg =>
        refine po_yes rfl rfl (bne_iff_ne.2 h1) ?_
        iterate 2 (first | refine po_mv rfl (by conv => lhs; whnf) ?_ | refine po_s rfl rfl rfl ?_)
        iterate 5 (refine po_skip rfl ?_)
        iterate 2 (first | refine po_mv rfl (by conv => lhs; whnf) ?_ | refine po_s rfl rfl rfl ?_)
        iterate 5 (refine po_skip rfl ?_)
        iterate 2 (first | refine po_mv rfl (by conv => lhs; whnf) ?_ | refine po_s rfl rfl rfl ?_)
        iterate 7 (refine po_skip rfl ?_)
        repeat' (first | refine po_mv rfl (by conv => lhs; whnf) ?_ | refine po_s rfl rfl rfl ?_ | refine po_box rfl ?_ | refine po_zero ?_ | refine po_nil ?_)
        exact ⟨⟨rfl, rfl, by rw [decide_eq_false (by omega)]; rfl, trivial⟩, rfl⟩
      refine po_no rfl rfl (by rw [h1]; exact bne_self_eq_false _) ?_
      iterate 2 (first | refine po_mv rfl (by conv => lhs; whnf) ?_ | refine po_s rfl rfl rfl ?_)
      iterate 4 (first | refine po_mv rfl (by conv => lhs; whnf) ?_ | refine po_s rfl rfl rfl ?_)
      by_cases h2 : a.exp = b.exp
      case neg =>
        refine po_yes rfl rfl (bne_iff_ne.2 h2) ?_
        iterate 2 (first | refine po_mv rfl (by conv => lhs; whnf) ?_ | refine po_s rfl rfl rfl ?_)
        iterate 5 (refine po_skip rfl ?_)
        iterate 2 (first | refine po_mv rfl (by conv => lhs; whnf) ?_ | refine po_s rfl rfl rfl ?_)
        iterate 7 (refine po_skip rfl ?_)
        repeat' (first | refine po_mv rfl (by conv => lhs; whnf) ?_ | refine po_s rfl rfl rfl ?_ | refine po_box rfl ?_ | refine po_zero ?_ | refine po_nil ?_)
        exact ⟨⟨rfl, rfl, by rw [decide_eq_false (by omega)]; rfl, trivial⟩, rfl⟩
      refine po_no rfl rfl (by rw [h2]; exact bne_self_eq_false _) ?_
      iterate 2 (first | refine po_mv rfl (by conv => lhs; whnf) ?_ | refine po_s rfl rfl rfl ?_)
      iterate 4 (first | refine po_mv rfl (by conv => lhs; whnf) ?_ | refine po_s rfl rfl rfl ?_)
      by_cases h3 : a.text = b.text
      case neg =>
        refine po_neS (la := a.text) (lb := b.text) rfl rfl rfl (decide_eq_true h3) ?_
        iterate 2 (first | refine po_mv rfl (by conv => lhs; whnf) ?_ | refine po_s rfl rfl rfl ?_)
        iterate 7 (refine po_skip rfl ?_)
        repeat' (first | refine po_mv rfl (by conv => lhs; whnf) ?_ | refine po_s rfl rfl rfl ?_ | refine po_box rfl ?_ | refine po_zero ?_ | refine po_nil ?_)
        exact ⟨⟨rfl, rfl, by rw [decide_eq_false (fun h => h3 h.2.2.2.1)]; rfl, trivial⟩, rfl⟩
      refine po_neS (la := a.text) (lb := b.text) rfl rfl rfl (decide_eq_false (fun h => h h3)) ?_
      iterate 2 (first | refine po_mv rfl (by conv => lhs; whnf) ?_ | refine po_s rfl rfl rfl ?_)
      iterate 2 (first | refine po_mv rfl (by conv => lhs; whnf) ?_ | refine po_s rfl rfl rfl ?_)
      refine po_len (n := a.kids.length) rfl rfl (vK_len _) ?_
      iterate 2 (first | refine po_mv rfl (by conv => lhs; whnf) ?_ | refine po_s rfl rfl rfl ?_)
      refine po_len (n := b.kids.length) rfl rfl (vK_len _) ?_
      by_cases h4 : a.kids.length = b.kids.length
      · refine po_no rfl rfl (by rw [h4]; exact bne_self_eq_false _) ?_
        repeat' (first | refine po_mv rfl (by conv => lhs; whnf) ?_ | refine po_s rfl rfl rfl ?_ | refine po_box rfl ?_ | refine po_zero ?_ | refine po_nil ?_)
        exact ⟨⟨rfl, rfl, by rw [decide_eq_true ⟨h0, h1, h2, h3, h4⟩]; rfl, trivial⟩, rfl⟩
      · refine po_yes rfl rfl (bne_iff_ne.2 (show ((a.kids.length : Nat) : Int) ≠ b.kids.length by omega)) ?_
        repeat' (first | refine po_mv rfl (by conv => lhs; whnf) ?_ | refine po_s rfl rfl rfl ?_ | refine po_box rfl ?_ | refine po_zero ?_ | refine po_nil ?_)
        exact ⟨⟨rfl, rfl, by rw [decide_eq_false (fun h => h4 h.2.2.2.2)]; rfl, trivial⟩, rfl⟩
    rintro tm bx nt live ⟨ht, hbx⟩
    obtain ⟨tm0, rfl⟩ := has_ups ht
    simp only at hbx; subst hbx
    clear ht
    by_cases hh : a.kind = b.kind ∧ a.num = b.num ∧ a.exp = b.exp ∧ a.text = b.text ∧ a.kids.length = b.kids.length
    · rw [decide_eq_true hh]
      refine mw_cond (t := false) rfl (fun h => absurd h (by decide)) (fun _ => ?_)
      refine mw_skip ?_
      exact ⟨⟨rfl, rfl, trivial⟩, rfl, hh⟩
    · rw [decide_eq_false hh]
      refine mw_cond (t := true) rfl (fun _ => ?_) (fun h => absurd h (by decide))
      refine mw_seq (mw_ops ?_)
      repeat' (first | refine po_mv rfl (by conv => lhs; whnf) ?_ | refine po_s rfl rfl rfl ?_ | refine po_box rfl ?_ | refine po_zero ?_ | refine po_nil ?_)
      refine mw_ret ⟨.inr rfl, [.d (pB false)], rfl, ?_⟩
      rw [decide_eq_false (fun h => hh (by subst h; exact ⟨rfl, rfl, rfl, rfl, rfl⟩))]; rfl
  rintro tm bx nt live ⟨ht, hbx, h0, h1, h2, h3, h4⟩
  obtain ⟨tm0, rfl⟩ := has_ups ht
  simp only at hbx; subst hbx
  clear ht
  refine mw_cut (fun st => a.kids = b.kids) ?_ ?_
  · refine mw_seq (mw_ops ?_)
    repeat' (first | refine po_mv rfl (by conv => lhs; whnf) ?_ | refine po_s rfl rfl rfl ?_ | refine po_box rfl ?_ | refine po_zero ?_ | refine po_nil ?_)
    refine mw_block ?_
    refine mw_while (SmL a b) a.kids.length ⟨0, Nat.zero_le _, rfl, ⟨rfl, rfl, rfl, trivial⟩, rfl, rfl⟩ ?_
    rintro m tm bx nt live ⟨i, hi, rfl, ht, hbx, htk⟩
    obtain ⟨tm1, rfl⟩ := has_ups ht
    simp only at hbx; subst hbx
    clear ht tm0
    refine mw_seq (mw_seq (mw_ops ?_))
    iterate 3 (first | refine po_mv rfl (by conv => lhs; whnf) ?_ | refine po_s rfl rfl rfl ?_)
    refine po_len (n := a.kids.length) rfl rfl (vK_len _) ?_
    refine po_b rfl rfl (fun q hq => ?_)
    refine po_nil ?_
    refine mw_cd (p := (i : Int) < a.kids.length) hq rfl (fun him _ => ?_) (fun him _ => ?_)
    rotate_left
    · refine mw_exit ?_
      have : i = a.kids.length := by omega
      subst this
      rw [List.take_length, h4, List.take_length] at htk; exact htk
    have hia : i < a.kids.length := by omega
    have hib : i < b.kids.length := by omega
    refine mw_skip ?_
    refine mw_seq (mw_block ?_)
    refine mw_seq (mw_ops ?_)
    iterate 3 (first | refine po_mv rfl (by conv => lhs; whnf) ?_ | refine po_s rfl rfl rfl ?_)
    refine po_ix (es := vK a.kids) (e := vC a.kids[i]) rfl rfl rfl ⟨by omega, by rw [Int.toNat_natCast]; exact vK_get hia⟩ rfl ?_
    iterate 4 (first | refine po_mv rfl (by conv => lhs; whnf) ?_ | refine po_s rfl rfl rfl ?_)
    refine po_ix (es := vK b.kids) (e := vC b.kids[i]) rfl rfl rfl ⟨by omega, by rw [Int.toNat_natCast]; exact vK_get hib⟩ rfl ?_
    first | refine po_mv rfl (by conv => lhs; whnf) ?_ | refine po_s rfl rfl rfl ?_
    refine po_call (dats2 (vC_er _) (vC_er _)) (ih a.kids[i] b.kids[i] (V.nodes_kid hn i hia) (V.bulk_get hkl i hia)) ?_
    by_cases hk : a.kids[i] = b.kids[i]
    · rw [decide_eq_true hk]
      repeat' (first | refine po_mv rfl (by conv => lhs; whnf) ?_ | refine po_s rfl rfl rfl ?_ | refine po_box rfl ?_ | refine po_zero ?_ | refine po_nil ?_)
      refine mw_cond (t := false) rfl (fun h => absurd h (by decide)) (fun _ => ?_)
      refine mw_skip ?_
      refine mw_ops ?_
      first | refine po_mv rfl (by conv => lhs; whnf) ?_ | refine po_s rfl rfl rfl ?_
      refine po_add (n := ((i + 1 : Nat) : Int)) rfl rfl rfl (by omega) (by omega) ?_
      repeat' (first | refine po_mv rfl (by conv => lhs; whnf) ?_ | refine po_s rfl rfl rfl ?_ | refine po_box rfl ?_ | refine po_zero ?_ | refine po_nil ?_)
      exact ⟨_, by show a.kids.length - (i + 1) < a.kids.length - i; omega, i + 1, by omega, rfl, ⟨rfl, rfl, rfl, trivial⟩, rfl, by rw [List.take_succ_eq_append_getElem hia, List.take_succ_eq_append_getElem hib, htk, hk]⟩
    · rw [decide_eq_false hk]
      repeat' (first | refine po_mv rfl (by conv => lhs; whnf) ?_ | refine po_s rfl rfl rfl ?_ | refine po_box rfl ?_ | refine po_zero ?_ | refine po_nil ?_)
      refine mw_cond (t := true) rfl (fun _ => ?_) (fun h => absurd h (by decide))
      refine mw_seq (mw_ops ?_)
      repeat' (first | refine po_mv rfl (by conv => lhs; whnf) ?_ | refine po_s rfl rfl rfl ?_ | refine po_box rfl ?_ | refine po_zero ?_ | refine po_nil ?_)
      refine mw_ret ⟨.inr rfl, [.d (pB false)], rfl, ?_⟩
      rw [decide_eq_false (fun h => hk (by subst h; rfl))]; rfl
  rintro tm bx nt live hks
  refine mw_seq (mw_ops ?_)
  repeat' (first | refine po_mv rfl (by conv => lhs; whnf) ?_ | refine po_s rfl rfl rfl ?_ | refine po_box rfl ?_ | refine po_zero ?_ | refine po_nil ?_)
  refine mw_ret ⟨.inr rfl, [.d (pB true)], rfl, ?_⟩
  rw [decide_eq_true (V.ext5.2 ⟨h0, h1, h2, h3, hks⟩)]; rfl
theorem same_fn (a b : V) (hb : a.bulk ≤ 4294967295) : FnV (env T hT) 7 [.ag (vC a), .ag (vC b)] (.d (pB (decide (a = b)))) := by
  have all : ∀ N, SmP T hT N := by
    intro N
    induction N with
    | zero => intro a b hn; have := a.nodes_pos; omega
    | succ N ih => exact same_step ih
  exact all a.nodes a b (Nat.le_refl _) hb
/-! ### JsonFits -/
def CtP (T : World → Prop) (hT : Low ngl T) (q : Int) (N : Nat) : Prop := ∀ v : V, v.nodes ≤ N → v.nodes ≤ 4294967295 → FnV (env T hT) 18 [.ag (vC v), .d (pI q)] (.d (pI (V.tal q v : Nat)))
theorem V.tals_snoc (q : Int) (ls : List V) (k : Nat) (h : k < ls.length) : V.tals q (ls.take (k + 1)) = V.tals q (ls.take k) + V.tal q ls[k] := by
  rw [List.take_succ_eq_append_getElem h]
  have : ∀ a b : List V, V.tals q (a ++ b) = V.tals q a + V.tals q b := by
    intro a b
    induction a with
    | nil => simp [V.tals]
    | cons x r ih => simp only [List.cons_append, V.tals, ih]; omega
  rw [this]; simp [V.tals]
mutual
theorem V.tal_le (q : Int) : ∀ v : V, V.tal q v ≤ v.nodes
  | .mk k n e s kids => by have := V.tals_le q kids; simp only [V.tal, V.nodes]; split <;> omega
theorem V.tals_le (q : Int) : ∀ vs : List V, V.tals q vs ≤ V.nodess vs
  | [] => by simp [V.tals]
  | v :: vs => by have := V.tal_le q v; have := V.tals_le q vs; simp only [V.tals, V.nodess]; omega
end
theorem V.tals_take (q : Int) : ∀ (ls : List V) (k : Nat), V.tals q (ls.take k) ≤ V.tals q ls
  | [], k => by simp [V.tals]
  | l :: ls, 0 => by simp [V.tals]
  | l :: ls, k + 1 => by have := V.tals_take q ls k; simp only [List.take_succ_cons, V.tals]; omega
theorem V.tal_eq (q : Int) (v : V) : V.tal q v = (if v.kind = q then 1 else 0) + V.tals q v.kids := by obtain ⟨k, n, e, s, ks⟩ := v; rfl
theorem V.nodes_eq (v : V) : v.nodes = 1 + V.nodess v.kids := by obtain ⟨k, n, e, s, ks⟩ := v; rfl
def CtI (v : V) (q : Int) (m : Nat) (st : St) : Prop := ∃ i : Nat, i ≤ v.kids.length ∧ m = v.kids.length - i ∧ has st.tm [(1, .d (pI q)), (2, .ref 0 0), (5, .d (pI (((if v.kind = q then 1 else 0) + V.tals q (v.kids.take i) : Nat) : Int))), (6, .d (pI i))] ∧ st.bx = [vC v]
set_option maxHeartbeats 1000000 in
theorem count_step {q : Int} {N : Nat} (ih : CtP T hT q N) : CtP T hT q (N + 1) := by
  intro v hn hbn
  have hnk := V.nodes_eq v
  have hkn := V.kids_nodes v.kids
  refine fn_of (look_env lk_s_Count) (by show 2 ≤ 28; decide) fun B hB => ?_
  unfold m_s_Count
  refine mw_seq (mw_ops ?_)
  refine po_box (cs := vC v) rfl ?_
  repeat' (first | refine po_mv rfl (by conv => lhs; whnf) ?_ | refine po_s rfl rfl rfl ?_ | refine po_box rfl ?_ | refine po_zero ?_ | refine po_nil ?_)
  refine mw_seq (mw_ops ?_)
  repeat' (first | refine po_mv rfl (by conv => lhs; whnf) ?_ | refine po_s rfl rfl rfl ?_ | refine po_box rfl ?_ | refine po_zero ?_ | refine po_nil ?_)
  refine mw_cut (fun st => has st.tm [(1, .d (pI q)), (2, .ref 0 0), (5, .d (pI ((if v.kind = q then 1 else 0 : Nat) : Int)))] ∧ st.bx = [vC v]) ?_ ?_
  · refine mw_seq (mw_ops ?_)
    iterate 3 (first | refine po_mv rfl (by conv => lhs; whnf) ?_ | refine po_s rfl rfl rfl ?_)
    by_cases h : v.kind = q
    · refine po_yes rfl rfl (beq_iff_eq.2 h) ?_
      refine po_nil ?_
      refine mw_cond (t := true) rfl (fun _ => ?_) (fun h => absurd h (by decide))
      refine mw_ops ?_
      repeat' (first | refine po_mv rfl (by conv => lhs; whnf) ?_ | refine po_s rfl rfl rfl ?_ | refine po_box rfl ?_ | refine po_zero ?_ | refine po_nil ?_)
      exact ⟨⟨rfl, rfl, by rw [if_pos h]; rfl, trivial⟩, rfl⟩
    · refine po_no rfl rfl (beq_eq_false_iff_ne.2 h) ?_
      refine po_nil ?_
      refine mw_cond (t := false) rfl (fun h => absurd h (by decide)) (fun _ => ?_)
      refine mw_skip ?_
      exact ⟨⟨rfl, rfl, by rw [if_neg h]; rfl, trivial⟩, rfl⟩
  rintro tm bx nt live ⟨ht, hbx⟩
  obtain ⟨tm0, rfl⟩ := has_ups ht
  simp only at hbx; subst hbx
  clear ht
  refine mw_cut (fun st => has st.tm [(5, .d (pI (V.tal q v : Nat)))]) ?_ ?_
  · refine mw_seq (mw_ops ?_)
    repeat' (first | refine po_mv rfl (by conv => lhs; whnf) ?_ | refine po_s rfl rfl rfl ?_ | refine po_box rfl ?_ | refine po_zero ?_ | refine po_nil ?_)
    refine mw_block ?_
    refine mw_while (CtI v q) v.kids.length ⟨0, Nat.zero_le _, rfl, ⟨rfl, rfl, rfl, rfl, trivial⟩, rfl⟩ ?_
    rintro m tm bx nt live ⟨i, hi, rfl, ht, hbx⟩
    obtain ⟨tm1, rfl⟩ := has_ups ht
    simp only at hbx; subst hbx
    clear ht tm0
    refine mw_seq (mw_seq (mw_ops ?_))
    iterate 3 (first | refine po_mv rfl (by conv => lhs; whnf) ?_ | refine po_s rfl rfl rfl ?_)
    refine po_len (n := v.kids.length) rfl rfl (vK_len _) ?_
    refine po_b rfl rfl (fun b hb => ?_)
    refine po_nil ?_
    refine mw_cd (p := (i : Int) < v.kids.length) hb rfl (fun him _ => ?_) (fun him _ => ?_)
    rotate_left
    · refine mw_exit ?_
      have : i = v.kids.length := by omega
      subst this
      rw [List.take_length, ← V.tal_eq]
      exact ⟨rfl, trivial⟩
    have hia : i < v.kids.length := by omega
    have hs := V.tals_snoc q v.kids i hia
    have h1 := V.tals_take q v.kids (i + 1)
    have h2 := V.tals_le q v.kids
    refine mw_skip ?_
    refine mw_seq (mw_block (mw_ops ?_))
    iterate 4 (first | refine po_mv rfl (by conv => lhs; whnf) ?_ | refine po_s rfl rfl rfl ?_)
    refine po_ix (es := vK v.kids) (e := vC v.kids[i]) rfl rfl rfl ⟨by omega, by rw [Int.toNat_natCast]; exact vK_get hia⟩ rfl ?_
    iterate 2 (first | refine po_mv rfl (by conv => lhs; whnf) ?_ | refine po_s rfl rfl rfl ?_)
    refine po_call (dats1i (vC_er _) _) (ih v.kids[i] (V.nodes_kid hn i hia) (by have := V.nodes_get v.kids i hia; omega)) ?_
    refine po_add (n := (((if v.kind = q then 1 else 0) + V.tals q (v.kids.take (i + 1)) : Nat) : Int)) rfl rfl rfl (by rw [hs]; omega) (by split <;> omega) ?_
    repeat' (first | refine po_mv rfl (by conv => lhs; whnf) ?_ | refine po_s rfl rfl rfl ?_ | refine po_box rfl ?_ | refine po_zero ?_ | refine po_nil ?_)
    refine mw_ops ?_
    first | refine po_mv rfl (by conv => lhs; whnf) ?_ | refine po_s rfl rfl rfl ?_
    refine po_add (n := ((i + 1 : Nat) : Int)) rfl rfl rfl (by omega) (by omega) ?_
    repeat' (first | refine po_mv rfl (by conv => lhs; whnf) ?_ | refine po_s rfl rfl rfl ?_ | refine po_box rfl ?_ | refine po_zero ?_ | refine po_nil ?_)
    exact ⟨_, by show v.kids.length - (i + 1) < v.kids.length - i; omega, i + 1, by omega, rfl, ⟨rfl, rfl, rfl, rfl, trivial⟩, rfl⟩
  rintro tm bx nt live ht
  obtain ⟨tm1, rfl⟩ := has_ups ht
  refine mw_seq (mw_ops ?_)
  repeat' (first | refine po_mv rfl (by conv => lhs; whnf) ?_ | refine po_s rfl rfl rfl ?_ | refine po_box rfl ?_ | refine po_zero ?_ | refine po_nil ?_)
  exact mw_ret ⟨.inr rfl, _, rfl, rfl⟩
theorem count_fn (q : Int) (v : V) (hb : v.nodes ≤ 4294967295) : FnV (env T hT) 18 [.ag (vC v), .d (pI q)] (.d (pI (V.tal q v : Nat))) := by
  have all : ∀ N, CtP T hT q N := by
    intro N
    induction N with
    | zero => intro a hn; have := a.nodes_pos; omega
    | succ N ih => exact count_step ih
  exact all v.nodes v (Nat.le_refl _) hb
/-- the keys are texts, part by part -/
def tkAt (v : V) (j : Nat) : Prop := ∀ h : j < v.kids.length, (v.kind = 8 → j % 2 = 0 → v.kids[j].kind = 5) ∧ v.kids[j].tkey = true
theorem tkey_eq (v : V) : v.tkey = ((decide (v.kind ≠ 8) || (odds v.kids).all fun x => decide (x.kind = 5)) && V.tkeys v.kids) := by obtain ⟨k, n, e, s, ks⟩ := v; rfl
theorem tkey_iff (v : V) : v.tkey = true ↔ ∀ j, tkAt v j := by
  rw [tkey_eq]
  unfold tkAt
  rw [Bool.and_eq_true, Bool.or_eq_true, decide_eq_true_eq, List.all_eq_true, V.tkeys_all]
  generalize v.kids = kids
  constructor
  · rintro ⟨h1, h2⟩ j hj
    refine ⟨fun h8 he => ?_, h2 _ (List.getElem_mem hj)⟩
    have h1 := h1.resolve_left (fun h => h h8)
    have ho : (odds kids)[j / 2]? = some kids[j] := by
      have := odds_get? kids (j / 2)
      rw [this, ← List.getElem?_eq_getElem hj]
      congr 1; omega
    exact of_decide_eq_true (h1 _ (List.mem_of_getElem? ho))
  · intro h
    refine ⟨?_, fun v hv => ?_⟩
    · by_cases h8 : v.kind = 8
      · right
        intro x hx
        obtain ⟨j, hj, rfl⟩ := List.mem_iff_getElem.1 hx
        rw [odds_length] at hj
        rw [odds_get kids j (by omega)]
        exact decide_eq_true ((h (2 * j) (by omega)).1 h8 (by omega))
      · exact .inl h8
    · obtain ⟨j, hj, rfl⟩ := List.mem_iff_getElem.1 hv
      exact (h j hj).2
def TkP (T : World → Prop) (hT : Low ngl T) (N : Nat) : Prop := ∀ v : V, v.nodes ≤ N → v.nodes ≤ 4294967295 → FnV (env T hT) 19 [.ag (vC v)] (.d (pB v.tkey))
def TkJ (v : V) (m : Nat) (st : St) : Prop := ∃ i : Nat, i ≤ v.kids.length ∧ m = v.kids.length - i ∧ has st.tm [(1, .ref 0 0), (3, .d (pI i))] ∧ st.bx = [vC v] ∧ ∀ j, j < i → tkAt v j
set_option maxHeartbeats 1000000 in
theorem tkey_step {N : Nat} (ih : TkP T hT N) : TkP T hT (N + 1) := by
  intro v hn hbn
  have hnk := V.nodes_eq v
  have hkn := V.kids_nodes v.kids
  refine fn_of (look_env lk_s_l04Text) (by show 1 ≤ 37; decide) fun B hB => ?_
  unfold m_s_l04Text
  refine mw_seq (mw_ops ?_)
  refine po_box (cs := vC v) rfl ?_
  repeat' (first | refine po_mv rfl (by conv => lhs; whnf) ?_ | refine po_s rfl rfl rfl ?_ | refine po_box rfl ?_ | refine po_zero ?_ | refine po_nil ?_)
  refine mw_cut (fun st => v.tkey = true) ?_ ?_
  · refine mw_seq (mw_ops ?_)
    repeat' (first | refine po_mv rfl (by conv => lhs; whnf) ?_ | refine po_s rfl rfl rfl ?_ | refine po_box rfl ?_ | refine po_zero ?_ | refine po_nil ?_)
    refine mw_block ?_
    refine mw_while (TkJ v) v.kids.length ⟨0, Nat.zero_le _, rfl, ⟨rfl, rfl, trivial⟩, rfl, fun j hj => by omega⟩ ?_
    rintro m tm bx nt live ⟨i, hi, rfl, ht, hbx, hall⟩
    obtain ⟨tm1, rfl⟩ := has_ups ht
    simp only at hbx; subst hbx
    clear ht
    refine mw_seq (mw_seq (mw_ops ?_))
    iterate 3 (first | refine po_mv rfl (by conv => lhs; whnf) ?_ | refine po_s rfl rfl rfl ?_)
    refine po_len (n := v.kids.length) rfl rfl (vK_len _) ?_
    refine po_b rfl rfl (fun b hb => ?_)
    refine po_nil ?_
    refine mw_cd (p := (i : Int) < v.kids.length) hb rfl (fun him _ => ?_) (fun him _ => ?_)
    rotate_left
    · refine mw_exit ?_
      exact (tkey_iff v).2 fun j hj => hall j (by omega) hj
    have hia : i < v.kids.length := by omega
    have hno : ¬ tkAt v i → v.tkey = false := fun h => by
      cases hv : v.tkey with
      | false => rfl
      | true => exact absurd ((tkey_iff v).1 hv i) h
    have hix : (vK v.kids)[((i : Nat) : Int).toNat]? = some (vC v.kids[i]) := by rw [Int.toNat_natCast]; exact vK_get hia
    refine mw_skip ?_
    refine mw_seq (mw_block ?_)
    refine mw_cut (fun st => ∃ q : Bool, has st.tm [(1, .ref 0 0), (3, .d (pI i)), (36, .d (pB q))] ∧ st.bx = [vC v] ∧ (q = true → v.tkey = false) ∧ (q = false → tkAt v i)) ?_ ?_
    · refine mw_ops ?_
      iterate 2 (first | refine po_mv rfl (by conv => lhs; whnf) ?_ | refine po_s rfl rfl rfl ?_)
      by_cases k8 : v.kind = 8 ∧ i % 2 = 0
      · refine po_yes rfl rfl (beq_iff_eq.2 k8.1) ?_
        iterate 2 (first | refine po_mv rfl (by conv => lhs; whnf) ?_ | refine po_s rfl rfl rfl ?_)
        refine po_rem (n := 0) rfl rfl rfl (by decide) (by rw [Int.tmod_eq_emod_of_nonneg (by omega)]; omega) ?_
        refine po_yes rfl rfl rfl ?_
        iterate 5 (first | refine po_mv rfl (by conv => lhs; whnf) ?_ | refine po_s rfl rfl rfl ?_)
        refine po_ix (es := vK v.kids) (e := vC v.kids[i]) rfl rfl rfl ⟨by omega, hix⟩ rfl ?_
        iterate 2 (first | refine po_mv rfl (by conv => lhs; whnf) ?_ | refine po_s rfl rfl rfl ?_)
        by_cases k5 : v.kids[i].kind = 5
        · refine po_no rfl rfl (by show (v.kids[i].kind != 5) = false; rw [k5]; rfl) ?_
          iterate 5 (first | refine po_mv rfl (by conv => lhs; whnf) ?_ | refine po_s rfl rfl rfl ?_)
          refine po_ix (es := vK v.kids) (e := vC v.kids[i]) rfl rfl rfl ⟨by omega, hix⟩ rfl ?_
          first | refine po_mv rfl (by conv => lhs; whnf) ?_ | refine po_s rfl rfl rfl ?_
          refine po_gcall (b := true) rfl (fun _ => vC_arg _) (fun _ => ih v.kids[i] (V.nodes_kid hn i hia) (by have := V.nodes_get v.kids i hia; omega)) ?_
          repeat' (first | refine po_mv rfl (by conv => lhs; whnf) ?_ | refine po_s rfl rfl rfl ?_ | refine po_box rfl ?_ | refine po_zero ?_ | refine po_nil ?_)
          cases hk : v.kids[i].tkey with
          | true => exact ⟨false, ⟨rfl, rfl, rfl, trivial⟩, rfl, nofun, fun _ h => ⟨fun _ _ => k5, hk⟩⟩
          | false => exact ⟨true, ⟨rfl, rfl, rfl, trivial⟩, rfl, fun _ => hno (fun h => by have := (h hia).2; rw [hk] at this; exact Bool.noConfusion this), nofun⟩
        · refine po_yes rfl rfl (bne_iff_ne.2 k5) ?_
          iterate 2 (first | refine po_mv rfl (by conv => lhs; whnf) ?_ | refine po_s rfl rfl rfl ?_)
          iterate 7 (refine po_skip rfl ?_)
          repeat' (first | refine po_mv rfl (by conv => lhs; whnf) ?_ | refine po_s rfl rfl rfl ?_ | refine po_box rfl ?_ | refine po_zero ?_ | refine po_nil ?_)
          exact ⟨true, ⟨rfl, rfl, rfl, trivial⟩, rfl, fun _ => hno fun h => k5 ((h hia).1 k8.1 k8.2), nofun⟩
      by_cases k : v.kind = 8
      · have hodd : i % 2 = 1 := by omega
        refine po_yes rfl rfl (beq_iff_eq.2 k) ?_
        iterate 2 (first | refine po_mv rfl (by conv => lhs; whnf) ?_ | refine po_s rfl rfl rfl ?_)
        refine po_rem (n := 1) rfl rfl rfl (by decide) (by rw [Int.tmod_eq_emod_of_nonneg (by omega)]; omega) ?_
        refine po_no rfl rfl rfl ?_
        iterate 2 (first | refine po_mv rfl (by conv => lhs; whnf) ?_ | refine po_s rfl rfl rfl ?_)
        iterate 7 (refine po_skip rfl ?_)
        iterate 2 (first | refine po_mv rfl (by conv => lhs; whnf) ?_ | refine po_s rfl rfl rfl ?_)
        iterate 3 (first | refine po_mv rfl (by conv => lhs; whnf) ?_ | refine po_s rfl rfl rfl ?_)
        refine po_ix (es := vK v.kids) (e := vC v.kids[i]) rfl rfl rfl ⟨by omega, hix⟩ rfl ?_
        first | refine po_mv rfl (by conv => lhs; whnf) ?_ | refine po_s rfl rfl rfl ?_
        refine po_gcall (b := true) rfl (fun _ => vC_arg _) (fun _ => ih v.kids[i] (V.nodes_kid hn i hia) (by have := V.nodes_get v.kids i hia; omega)) ?_
        repeat' (first | refine po_mv rfl (by conv => lhs; whnf) ?_ | refine po_s rfl rfl rfl ?_ | refine po_box rfl ?_ | refine po_zero ?_ | refine po_nil ?_)
        cases hk : v.kids[i].tkey with
        | true => exact ⟨false, ⟨rfl, rfl, rfl, trivial⟩, rfl, nofun, fun _ h => ⟨fun h1 h2 => absurd ⟨h1, h2⟩ k8, hk⟩⟩
        | false => exact ⟨true, ⟨rfl, rfl, rfl, trivial⟩, rfl, fun _ => hno (fun h => by have := (h hia).2; rw [hk] at this; exact Bool.noConfusion this), nofun⟩
      · refine po_no rfl rfl (beq_eq_false_iff_ne.2 k) ?_
        first | refine po_mv rfl (by conv => lhs; whnf) ?_ | refine po_s rfl rfl rfl ?_
        iterate 3 (refine po_skip rfl ?_)
        iterate 2 (first | refine po_mv rfl (by conv => lhs; whnf) ?_ | refine po_s rfl rfl rfl ?_)
        iterate 7 (refine po_skip rfl ?_)
        iterate 2 (first | refine po_mv rfl (by conv => lhs; whnf) ?_ | refine po_s rfl rfl rfl ?_)
        iterate 3 (first | refine po_mv rfl (by conv => lhs; whnf) ?_ | refine po_s rfl rfl rfl ?_)
        refine po_ix (es := vK v.kids) (e := vC v.kids[i]) rfl rfl rfl ⟨by omega, hix⟩ rfl ?_
        first | refine po_mv rfl (by conv => lhs; whnf) ?_ | refine po_s rfl rfl rfl ?_
        refine po_gcall (b := true) rfl (fun _ => vC_arg _) (fun _ => ih v.kids[i] (V.nodes_kid hn i hia) (by have := V.nodes_get v.kids i hia; omega)) ?_
        repeat' (first | refine po_mv rfl (by conv => lhs; whnf) ?_ | refine po_s rfl rfl rfl ?_ | refine po_box rfl ?_ | refine po_zero ?_ | refine po_nil ?_)
        cases hk : v.kids[i].tkey with
        | true => exact ⟨false, ⟨rfl, rfl, rfl, trivial⟩, rfl, nofun, fun _ h => ⟨fun h1 h2 => absurd ⟨h1, h2⟩ k8, hk⟩⟩
        | false => exact ⟨true, ⟨rfl, rfl, rfl, trivial⟩, rfl, fun _ => hno (fun h => by have := (h hia).2; rw [hk] at this; exact Bool.noConfusion this), nofun⟩
    rintro tm bx nt live ⟨q, ht, hbx, hq1, hq2⟩
    obtain ⟨tm2, rfl⟩ := has_ups ht
    simp only at hbx; subst hbx
    clear ht tm1
    cases q with
    | true =>
      refine mw_cond (t := true) rfl (fun _ => ?_) (fun h => absurd h (by decide))
      refine mw_seq (mw_ops ?_)
      repeat' (first | refine po_mv rfl (by conv => lhs; whnf) ?_ | refine po_s rfl rfl rfl ?_ | refine po_box rfl ?_ | refine po_zero ?_ | refine po_nil ?_)
      refine mw_ret ⟨.inr rfl, [.d (pB false)], rfl, ?_⟩
      rw [hq1 rfl]; rfl
    | false =>
      refine mw_cond (t := false) rfl (fun h => absurd h (by decide)) (fun _ => ?_)
      refine mw_skip ?_
      refine mw_ops ?_
      first | refine po_mv rfl (by conv => lhs; whnf) ?_ | refine po_s rfl rfl rfl ?_
      refine po_add (n := ((i + 1 : Nat) : Int)) rfl rfl rfl (by omega) (by omega) ?_
      repeat' (first | refine po_mv rfl (by conv => lhs; whnf) ?_ | refine po_s rfl rfl rfl ?_ | refine po_box rfl ?_ | refine po_zero ?_ | refine po_nil ?_)
      exact ⟨_, by show v.kids.length - (i + 1) < v.kids.length - i; omega, i + 1, by omega, rfl, ⟨rfl, rfl, trivial⟩, rfl, fun j hj => by
        by_cases e : j = i
        · subst e; exact hq2 rfl
        · exact hall j (by omega)⟩
  rintro tm bx nt live hv
  refine mw_seq (mw_ops ?_)
  repeat' (first | refine po_mv rfl (by conv => lhs; whnf) ?_ | refine po_s rfl rfl rfl ?_ | refine po_box rfl ?_ | refine po_zero ?_ | refine po_nil ?_)
  refine mw_ret ⟨.inr rfl, [.d (pB true)], rfl, ?_⟩
  rw [hv]; rfl
theorem tkey_fn (v : V) (hb : v.nodes ≤ 4294967295) : FnV (env T hT) 19 [.ag (vC v)] (.d (pB v.tkey)) := by
  have all : ∀ N, TkP T hT N := by
    intro N
    induction N with
    | zero => intro a hn; have := a.nodes_pos; omega
    | succ N ih => exact tkey_step ih
  exact all v.nodes v (Nat.le_refl _) hb
theorem nodes_bulk : ∀ v : V, v.nodes ≤ v.bulk + 1
  | .mk k n e s kids => by
    have : ∀ l : List V, (∀ x ∈ l, x.nodes ≤ x.bulk + 1) → V.nodess l ≤ V.bulks l + l.length := by
      intro l
      induction l with
      | nil => intro _; simp [V.nodess]
      | cons a r ih => intro h; have := h a (by simp); have := ih fun x hx => h x (by simp [hx]); simp only [V.nodess, V.bulks, List.length_cons]; omega
    have := this kids fun x hx => nodes_bulk x
    simp only [V.nodes, V.bulk]; omega
set_option maxHeartbeats 1000000 in
theorem json_fn (v : V) (hw : v.wf) (hb : v.bulk ≤ 4294967290) : FnV (env T hT) 9 [.ag (vC v)] (.d (pB v.jfits)) := by
  have hnb := nodes_bulk v
  have hc := fun q => count_fn (T := T) (hT := hT) q v (by omega)
  refine fn_of (look_env lk_s_JsonFits) (by show 1 ≤ 19; decide) fun B hB => ?_
  unfold m_s_JsonFits
  refine mw_seq (mw_ops ?_)
  refine po_box (cs := vC v) rfl ?_
  repeat' (first | refine po_mv rfl (by conv => lhs; whnf) ?_ | refine po_s rfl rfl rfl ?_ | refine po_box rfl ?_ | refine po_zero ?_ | refine po_nil ?_)
  refine mw_seq (mw_ops ?_)
  refine po_ldw (p := 0) (cs := vC v) rfl rfl rfl rfl ?_
  refine po_call (vC_arg v) (vok_fn (T := T) (hT := hT) v hw (by omega)) ?_
  first | refine po_mv rfl (by conv => lhs; whnf) ?_ | refine po_s rfl rfl rfl ?_
  cases hk : v.ok with
  | false =>
    have hj : v.jfits = false := by unfold V.jfits; rw [hk]; rfl
    iterate 3 (refine po_skip rfl ?_)
    iterate 2 (first | refine po_mv rfl (by conv => lhs; whnf) ?_ | refine po_s rfl rfl rfl ?_)
    iterate 3 (refine po_skip rfl ?_)
    iterate 2 (first | refine po_mv rfl (by conv => lhs; whnf) ?_ | refine po_s rfl rfl rfl ?_)
    iterate 2 (refine po_skip rfl ?_)
    repeat' (first | refine po_mv rfl (by conv => lhs; whnf) ?_ | refine po_s rfl rfl rfl ?_ | refine po_box rfl ?_ | refine po_zero ?_ | refine po_nil ?_)
    exact mw_ret ⟨.inr rfl, [.d (pB false)], rfl, by rw [hj]; rfl⟩
  | true =>
  refine po_ldw (p := 0) (cs := vC v) rfl rfl rfl rfl ?_
  refine po_gcall (b := true) rfl (fun _ => dats1i (vC_er _) _) (fun _ => hc 6) ?_
  by_cases h6 : V.tal 6 v = 0
  case neg =>
    have hj : v.jfits = false := by unfold V.jfits; rw [hk, decide_eq_false h6]; rfl
    refine po_no rfl rfl (beq_eq_false_iff_ne.2 (show ((V.tal 6 v : Nat) : Int) ≠ 0 by omega)) ?_
    iterate 2 (first | refine po_mv rfl (by conv => lhs; whnf) ?_ | refine po_s rfl rfl rfl ?_)
    iterate 3 (refine po_skip rfl ?_)
    iterate 2 (first | refine po_mv rfl (by conv => lhs; whnf) ?_ | refine po_s rfl rfl rfl ?_)
    iterate 2 (refine po_skip rfl ?_)
    repeat' (first | refine po_mv rfl (by conv => lhs; whnf) ?_ | refine po_s rfl rfl rfl ?_ | refine po_box rfl ?_ | refine po_zero ?_ | refine po_nil ?_)
    exact mw_ret ⟨.inr rfl, [.d (pB false)], rfl, by rw [hj]; rfl⟩
  refine po_yes rfl rfl (beq_iff_eq.2 (show ((V.tal 6 v : Nat) : Int) = 0 by omega)) ?_
  iterate 2 (first | refine po_mv rfl (by conv => lhs; whnf) ?_ | refine po_s rfl rfl rfl ?_)
  refine po_ldw (p := 0) (cs := vC v) rfl rfl rfl rfl ?_
  refine po_gcall (b := true) rfl (fun _ => dats1i (vC_er _) _) (fun _ => hc 9) ?_
  by_cases h9 : V.tal 9 v = 0
  case neg =>
    have hj : v.jfits = false := by unfold V.jfits; rw [hk, decide_eq_true h6, decide_eq_false h9]; rfl
    refine po_no rfl rfl (beq_eq_false_iff_ne.2 (show ((V.tal 9 v : Nat) : Int) ≠ 0 by omega)) ?_
    iterate 2 (first | refine po_mv rfl (by conv => lhs; whnf) ?_ | refine po_s rfl rfl rfl ?_)
    iterate 2 (refine po_skip rfl ?_)
    repeat' (first | refine po_mv rfl (by conv => lhs; whnf) ?_ | refine po_s rfl rfl rfl ?_ | refine po_box rfl ?_ | refine po_zero ?_ | refine po_nil ?_)
    exact mw_ret ⟨.inr rfl, [.d (pB false)], rfl, by rw [hj]; rfl⟩
  refine po_yes rfl rfl (beq_iff_eq.2 (show ((V.tal 9 v : Nat) : Int) = 0 by omega)) ?_
  iterate 2 (first | refine po_mv rfl (by conv => lhs; whnf) ?_ | refine po_s rfl rfl rfl ?_)
  refine po_ldw (p := 0) (cs := vC v) rfl rfl rfl rfl ?_
  refine po_gcall (b := true) rfl (fun _ => vC_arg _) (fun _ => tkey_fn (T := T) (hT := hT) v (by omega)) ?_
  repeat' (first | refine po_mv rfl (by conv => lhs; whnf) ?_ | refine po_s rfl rfl rfl ?_ | refine po_box rfl ?_ | refine po_zero ?_ | refine po_nil ?_)
  have hj : v.jfits = v.tkey := by unfold V.jfits; rw [hk, decide_eq_true h6, decide_eq_true h9]; rfl
  exact mw_ret ⟨.inr rfl, [.d (pB v.tkey)], rfl, by rw [hj]; rfl⟩
/-! ### the draw, the law -/
theorem new_l {b : List UInt8} (hb : b.length ≤ 2147483647) {bx : List (List PC)} (nt : Nat) (live : List Nat) : FnG (env T hT) 12 [.d (.sl 0 (pcB b))] bx nt live (fun x b' n l => ∃ c, x = .ref bx.length 0 ∧ b' = bx ++ [c] ∧ Cu b c ∧ n = nt ∧ l = live) := by
  refine (FnG.liftR (new_g (T := T) (hT := hT) hb nt live) ⟨by simp only [PV.lw, PC.lw]; exact pcB_lw 0 b, trivial⟩).mono ?_
  rintro x b' n l ⟨x0, b0, rfl, rfl, c, rfl, rfl, hc, rfl, rfl⟩
  refine ⟨c, by simp [PV.shB], ?_, hc, rfl, rfl⟩
  rw [List.map_cons, List.map_nil, shB_idL hc.lw]
theorem drawPlain_f {b : List UInt8} (hb : b.length ≤ 2147483647) : Fn (env T hT) 5 [.d (.sl 0 (pcB b))] (fun x _ => ∃ v, x.dat = some (.ag (vC v)) ∧ Gd 4000 v) := by
  refine fn_of (look_env lk_s_DrawPlain) (by show 1 ≤ 6; decide) fun B hB => ?_
  unfold m_s_DrawPlain
  refine mw_seq (mw_ops ?_)
  repeat' (first | refine po_mv rfl (by conv => lhs; whnf) ?_ | refine po_s rfl rfl rfl ?_ | refine po_box rfl ?_ | refine po_zero ?_ | refine po_nil ?_)
  refine mw_seq (mw_ops ?_)
  first | refine po_mv rfl (by conv => lhs; whnf) ?_ | refine po_s rfl rfl rfl ?_
  refine po_g rfl (new_l (T := T) (hT := hT) hb 2 []) ?_
  rintro x bx n l ⟨c, rfl, rfl, hc, rfl, rfl⟩
  refine po_g rfl ((any_drw (T := T) (hT := hT) hb).use trivial hc (Nat.le_refl 2) (p := 1) rfl) ?_
  rintro x bx n l ⟨c', rfl, hc', cs, v, rfl, hN, he, hg, _, _⟩
  refine po_stw (p := 0) (cs := cs) rfl rfl rfl (er_len he) rfl rfl ?_
  repeat' (first | refine po_mv rfl (by conv => lhs; whnf) ?_ | refine po_s rfl rfl rfl ?_ | refine po_box rfl ?_ | refine po_zero ?_ | refine po_nil ?_)
  exact mw_ret ⟨.inr rfl, [.ag cs], ress_box rfl rfl (er_len he), v, by rw [← he]; rfl, hg⟩
theorem big_fn0 (b : List UInt8) : FnV (env T hT) 4 [.d (.sl 0 (pcB b))] (.d (pB (decide ((b.length : Int) > 1048576)))) := by
  refine fn_of (look_env lk_l_big) (by show 1 ≤ 6; decide) fun B hB => ?_
  unfold m_l_big
  refine mw_seq (mw_ops ?_)
  repeat' (first | refine po_mv rfl (by conv => lhs; whnf) ?_ | refine po_s rfl rfl rfl ?_ | refine po_box rfl ?_ | refine po_zero ?_ | refine po_nil ?_)
  refine mw_seq (mw_ops ?_)
  first | refine po_mv rfl (by conv => lhs; whnf) ?_ | refine po_s rfl rfl rfl ?_
  refine po_len (n := b.length) rfl rfl (pcB_len b) ?_
  refine po_q rfl rfl ?_
  repeat' (first | refine po_mv rfl (by conv => lhs; whnf) ?_ | refine po_s rfl rfl rfl ?_ | refine po_box rfl ?_ | refine po_zero ?_ | refine po_nil ?_)
  exact mw_ret ⟨.inr rfl, _, rfl, rfl⟩
theorem plI_fn (hP : ∀ w, T w → PTab w) (v : V) (hw : v.wf) (hb : v.bulk ≤ 1048576) : FnV (env T hT) 6 [.ag (vC v)] (.ag (vC v.plainTop)) := by
  have : FnO (env T hT) 6 [.ag (vC v)] (.ag v.plainTop.d.pc) := FnO.old (V.wfd _) fun w C vs hF _ ht hlen hv => by
    match vs, hlen with
    | [a], _ =>
      have h0 := hv 0 _ _ rfl rfl
      rw [← V.pc_eq] at h0
      obtain ⟨cs, rfl, h1⟩ := vRd hF (V.wfd v) h0
      exact implPlain_any v cs w h1 hw hb (hP w ht)
  rw [V.pc_eq] at this; exact this.v
theorem plS_fn (v : V) (hw : v.wf) (hb : v.bulk ≤ 1048576) : FnV (env T hT) 8 [.ag (vC v)] (.ag (vC v.plainTop)) := by
  have : FnO (env T hT) 8 [.ag (vC v)] (.ag v.plainTop.d.pc) := FnO.old (V.wfd _) fun w C vs hF _ ht hlen hv => by
    match vs, hlen with
    | [a], _ =>
      have h0 := hv 0 _ _ rfl rfl
      rw [← V.pc_eq] at h0
      obtain ⟨cs, rfl, h1⟩ := vRd hF (V.wfd v) h0
      exact specPlain_any v cs w h1 hw hb
  rw [V.pc_eq] at this; exact this.v
section
variable {E : Env} {K : St → Prop} {tm : Nat → PV} {bx : List (List PC)} {nt d : Nat} {live : List Nat} {r : List MOpr} {c : List X}
/-- a call whose result is one of many -/
theorem po_callR {f : Nat} {xs : List X} {args : List PV} {R : PV → (Nat → Prop) → Prop} (hd : PV.dats (xs.map (ev tm)) = some args) (hF : Fn E f args R) (h : ∀ x lv, R x lv → ∃ y, x.dat = some y ∧ po E r K ⟨up d y tm, bx, nt, live⟩) : po E (⟨some d, .call f xs, none, c⟩ :: r) K ⟨tm, bx, nt, live⟩ :=
  by
  unfold po
  exact ⟨true, rfl, .inl ⟨rfl, .inl ⟨args, R, hd, hF, .inl fun x lv hx => by obtain ⟨y, h1, h2⟩ := h x lv hx; exact ⟨y, h1, by rw [put_up]; exact h2⟩⟩⟩⟩
end
end
theorem pcB_er (b : List UInt8) : erLL (pcB b) = pcB b := by
  rw [erLL_map]; unfold pcB; rw [List.map_map]; rfl
theorem V.plainTop_wf {v : V} (h : v.wf) (hb : v.bulk ≤ 4294967295) : v.plainTop.wf := by
  unfold V.plainTop
  split
  · split
    · exact V.plain_wf v h hb
    · exact h
  · exact h
theorem fnPlain_fn (b : List UInt8) (_hl : b.length ≤ maxLen) : FnV (env PTab PTab.low) 3 [.d (.sl 0 (pcB b))] (.d (pB true)) := by
  have hca : PV.dats [PV.d (.sl 0 (pcB b))] = some [.d (.sl 0 (pcB b))] := by
    show some [PV.d (.sl 0 (erLL (pcB b)))] = _
    rw [pcB_er]
  refine fn_of (look_env lk_l_FnPlain) (by show 1 ≤ 47; decide) fun B hB => ?_
  unfold m_l_FnPlain
  refine mw_seq (mw_ops ?_)
  repeat' (first | refine po_mv rfl (by conv => lhs; whnf) ?_ | refine po_s rfl rfl rfl ?_ | refine po_box rfl ?_ | refine po_zero ?_ | refine po_nil ?_)
  refine mw_seq (mw_seq (mw_ops ?_))
  first | refine po_mv rfl (by conv => lhs; whnf) ?_ | refine po_s rfl rfl rfl ?_
  refine po_call hca (big_fn0 b) ?_
  refine po_nil ?_
  refine mw_cd0 (p := (b.length : Int) > 1048576) rfl (fun h => ?_) (fun h => ?_)
  · refine mw_seq (mw_ops ?_)
    repeat' (first | refine po_mv rfl (by conv => lhs; whnf) ?_ | refine po_s rfl rfl rfl ?_ | refine po_box rfl ?_ | refine po_zero ?_ | refine po_nil ?_)
    exact mw_ret ⟨.inr rfl, [.d (pB true)], rfl, rfl⟩
  refine mw_skip ?_
  refine mw_seq (mw_ops ?_)
  first | refine po_mv rfl (by conv => lhs; whnf) ?_ | refine po_s rfl rfl rfl ?_
  refine po_callR hca (drawPlain_f (T := PTab) (hT := PTab.low) (b := b) (by omega)) ?_
  rintro x lv ⟨v, hx, hg⟩
  refine ⟨_, hx, ?_⟩
  obtain ⟨l1, l2, l3⟩ := plain_law v
  have hb0 : v.bulk ≤ 1048576 := by have := hg.bulk; omega
  have hpb := V.plainTop_bulk hb0
  have hpw := V.plainTop_wf hg.wf (by omega)
  refine po_nw (cs := vC v) rfl rfl rfl rfl ?_
  repeat' (first | refine po_mv rfl (by conv => lhs; whnf) ?_ | refine po_s rfl rfl rfl ?_ | refine po_box rfl ?_ | refine po_zero ?_ | refine po_nil ?_)
  refine mw_seq (mw_ops ?_)
  refine po_ldw (p := 0) (cs := vC v) rfl rfl rfl rfl ?_
  refine po_call (vC_arg v) (plI_fn (T := PTab) (hT := PTab.low) (fun _ h => h) v hg.wf hb0) ?_
  refine po_nw (cs := vC v.plainTop) rfl rfl rfl rfl ?_
  repeat' (first | refine po_mv rfl (by conv => lhs; whnf) ?_ | refine po_s rfl rfl rfl ?_ | refine po_box rfl ?_ | refine po_zero ?_ | refine po_nil ?_)
  refine mw_seq (mw_seq (mw_ops ?_))
  refine po_ldw (p := 1) (cs := vC v.plainTop) rfl rfl rfl rfl ?_
  refine po_ldw (p := 0) (cs := vC v) rfl rfl rfl rfl ?_
  refine po_call (vC_arg v) (plS_fn (T := PTab) (hT := PTab.low) v hg.wf hb0) ?_
  refine po_call (dats2 (vC_er _) (vC_er _)) (same_fn (T := PTab) (hT := PTab.low) v.plainTop v.plainTop (by omega)) ?_
  rw [decide_eq_true (rfl : v.plainTop = v.plainTop)]
  repeat' (first | refine po_mv rfl (by conv => lhs; whnf) ?_ | refine po_s rfl rfl rfl ?_ | refine po_box rfl ?_ | refine po_zero ?_ | refine po_nil ?_)
  refine mw_cond (t := false) rfl (fun h => absurd h (by decide)) (fun _ => ?_)
  refine mw_skip ?_
  refine mw_cut (fun st => has st.tm [(3, .ref 0 0), (4, .ref 1 0)] ∧ st.bx = [vC v, vC v.plainTop]) ?_ ?_
  · refine mw_cut (fun st => has st.tm [(3, .ref 0 0), (4, .ref 1 0), (34, .d (pB false))] ∧ st.bx = [vC v, vC v.plainTop]) ?_ ?_
    · refine mw_ops ?_
      refine po_ldw (p := 0) (cs := vC v) rfl rfl rfl rfl ?_
      refine po_call (vC_arg v) (json_fn (T := PTab) (hT := PTab.low) v hg.wf (by omega)) ?_
      first | refine po_mv rfl (by conv => lhs; whnf) ?_ | refine po_s rfl rfl rfl ?_
      cases hj : v.jfits with
      | true =>
        have he := l1 hj
        have hok : v.ok = true := by unfold V.jfits at hj; rw [Bool.and_eq_true] at hj; exact hj.1
        refine po_ldw (p := 1) (cs := vC v.plainTop) rfl rfl rfl rfl ?_
        refine po_ldw (p := 0) (cs := vC v) rfl rfl rfl rfl ?_
        refine po_gcall (b := true) rfl (fun _ => dats2 (vC_er _) (vC_er _)) (fun _ => same_fn (T := PTab) (hT := PTab.low) v.plainTop v (by omega)) ?_
        rw [decide_eq_true he]
        iterate 3 (first | refine po_mv rfl (by conv => lhs; whnf) ?_ | refine po_s rfl rfl rfl ?_)
        refine po_ldw (p := 0) (cs := vC v) rfl rfl rfl rfl ?_
        refine po_gcall (b := true) rfl (fun _ => vC_arg v) (fun _ => vok_fn (T := PTab) (hT := PTab.low) v hg.wf (by omega)) ?_
        rw [hok]
        iterate 2 (first | refine po_mv rfl (by conv => lhs; whnf) ?_ | refine po_s rfl rfl rfl ?_)
        iterate 4 (refine po_skip rfl ?_)
        repeat' (first | refine po_mv rfl (by conv => lhs; whnf) ?_ | refine po_s rfl rfl rfl ?_ | refine po_box rfl ?_ | refine po_zero ?_ | refine po_nil ?_)
        exact ⟨⟨rfl, rfl, rfl, trivial⟩, rfl⟩
      | false =>
        iterate 4 (refine po_skip rfl ?_)
        iterate 2 (first | refine po_mv rfl (by conv => lhs; whnf) ?_ | refine po_s rfl rfl rfl ?_)
        refine po_ldw (p := 0) (cs := vC v) rfl rfl rfl rfl ?_
        refine po_gcall (b := true) rfl (fun _ => vC_arg v) (fun _ => vok_fn (T := PTab) (hT := PTab.low) v hg.wf (by omega)) ?_
        iterate 2 (first | refine po_mv rfl (by conv => lhs; whnf) ?_ | refine po_s rfl rfl rfl ?_)
        cases hok : v.ok with
        | true =>
          iterate 4 (refine po_skip rfl ?_)
          repeat' (first | refine po_mv rfl (by conv => lhs; whnf) ?_ | refine po_s rfl rfl rfl ?_ | refine po_box rfl ?_ | refine po_zero ?_ | refine po_nil ?_)
          exact ⟨⟨rfl, rfl, rfl, trivial⟩, rfl⟩
        | false =>
          have he := l2 hok
          refine po_ldw (p := 1) (cs := vC v.plainTop) rfl rfl rfl rfl ?_
          refine po_ldw (p := 0) (cs := vC v) rfl rfl rfl rfl ?_
          refine po_gcall (b := true) rfl (fun _ => dats2 (vC_er _) (vC_er _)) (fun _ => same_fn (T := PTab) (hT := PTab.low) v.plainTop v (by omega)) ?_
          rw [decide_eq_true he]
          repeat' (first | refine po_mv rfl (by conv => lhs; whnf) ?_ | refine po_s rfl rfl rfl ?_ | refine po_box rfl ?_ | refine po_zero ?_ | refine po_nil ?_)
          exact ⟨⟨rfl, rfl, rfl, trivial⟩, rfl⟩
    rintro tm bx n l ⟨ht, hbx⟩
    obtain ⟨tm0, rfl⟩ := has_ups ht
    simp only at hbx; subst hbx
    clear ht
    refine mw_cond (t := false) rfl (fun h => absurd h (by decide)) (fun _ => ?_)
    refine mw_skip ?_
    exact ⟨⟨rfl, rfl, trivial⟩, rfl⟩
  rintro tm bx n l ⟨ht, hbx⟩
  obtain ⟨tm0, rfl⟩ := has_ups ht
  simp only at hbx; subst hbx
  clear ht
  refine mw_seq (mw_ops ?_)
  refine po_ldw (p := 0) (cs := vC v) rfl rfl rfl rfl ?_
  refine po_call (vC_arg v) (vok_fn (T := PTab) (hT := PTab.low) v hg.wf (by omega)) ?_
  iterate 2 (first | refine po_mv rfl (by conv => lhs; whnf) ?_ | refine po_s rfl rfl rfl ?_)
  cases hok : v.ok with
  | false =>
    iterate 2 (refine po_skip rfl ?_)
    iterate 2 (first | refine po_mv rfl (by conv => lhs; whnf) ?_ | refine po_s rfl rfl rfl ?_)
    iterate 3 (refine po_skip rfl ?_)
    repeat' (first | refine po_mv rfl (by conv => lhs; whnf) ?_ | refine po_s rfl rfl rfl ?_ | refine po_box rfl ?_ | refine po_zero ?_ | refine po_nil ?_)
    exact mw_ret ⟨.inr rfl, [.d (pB true)], rfl, rfl⟩
  | true =>
    refine po_ldw (p := 1) (cs := vC v.plainTop) rfl rfl rfl rfl ?_
    refine po_gcall (b := true) rfl (fun _ => vC_arg v.plainTop) (fun _ => json_fn (T := PTab) (hT := PTab.low) v.plainTop hpw (by omega)) ?_
    iterate 2 (first | refine po_mv rfl (by conv => lhs; whnf) ?_ | refine po_s rfl rfl rfl ?_)
    cases hj : v.plainTop.jfits with
    | true =>
      iterate 3 (refine po_skip rfl ?_)
      repeat' (first | refine po_mv rfl (by conv => lhs; whnf) ?_ | refine po_s rfl rfl rfl ?_ | refine po_box rfl ?_ | refine po_zero ?_ | refine po_nil ?_)
      exact mw_ret ⟨.inr rfl, [.d (pB true)], rfl, rfl⟩
    | false =>
      have he := (l3 hok).resolve_left (by rw [hj]; decide)
      refine po_ldw (p := 1) (cs := vC v.plainTop) rfl rfl rfl rfl ?_
      refine po_ldw (p := 0) (cs := vC v) rfl rfl rfl rfl ?_
      refine po_gcall (b := true) rfl (fun _ => dats2 (vC_er _) (vC_er _)) (fun _ => same_fn (T := PTab) (hT := PTab.low) v.plainTop v (by omega)) ?_
      rw [decide_eq_true he]
      repeat' (first | refine po_mv rfl (by conv => lhs; whnf) ?_ | refine po_s rfl rfl rfl ?_ | refine po_box rfl ?_ | refine po_zero ?_ | refine po_nil ?_)
      exact mw_ret ⟨.inr rfl, [.d (pB true)], rfl, rfl⟩
theorem fnPlainW (b : List UInt8) (v : Value) (w : World) (hn : ngl ≤ w.heap.size) (hT : Tabs w) (hTen : TenTab w) (h : Rd w (dBy b) [v] ∧ b.length ≤ maxLen) : Calls Tryd.prog 3 #[v] w fun e w' => e = .returned (.bool true) ∧ Below w.heap.size w w' :=
  fnLaw (fnPlain_fn b h.2) hn ⟨hT, hTen⟩ h.1
end Go.Proofs.YthngfihpnfoppaaDoor

namespace Go.Proofs.YthngfihpnfoppaaDoor

theorem laid_of {H : Type} {enc : TypeId × Value → H} {C : Checked} {os : Os} {f : FuncId} {fn : Func} {s : ChangeSpec} {conds : List PathCond} {fresh handsOn again apart : Bool} (L : List (String × DataW Unit))
    (own : ownKnob C.prog.godebug = none) (started : os.Started) (noInit : C.prog.inits.idxOf? f = none) (hfn : C.prog.funcs[f]? = some fn)
    (wit : ∃ (w : World) (tape : Tape) (i : Input), w.os = os ∧ (w.forCall tape i).Shaped C.prog ∧ i.vars = [] ∧ Input.okWide C.prog (w.forCall tape i) .any w.heap.size f i ∧
      ((s.pre enc C.prog fn conds apart (w.forCall tape i).memory i.args ∧ laidMetH C.prog L (w.forCall tape i).memory) ∧ sizedMet enc C.prog fn (OpenSpec.ofChange s) apart (w.forCall tape i).memory i.args) ∧ ({} : Assume).holds C.prog (lone (Frame.enter C.prog f i.args .normal) [] (w.forCall tape i)))
    (walk : ∀ (W : World) (base : Nat) (args : Array Value) (ds gs : List (DataW H)) (before : List MemPlace), W.ShapedOpen C.prog → laidMetH C.prog L W →
      (∀ (j : Nat) t v, fn.params[j]? = some t → args[j]? = some v → Value.okWide C.prog W .any base t v) →
      DataW.Whole enc C.prog fn.params.toList s.vars apart W args.toList ds gs before →
      conds.all (PathCond.test C.prog ⟨fn.params.toList, ds, s.plain.varTypes C.prog, gs⟩) = true →
      Calls C.prog f args W fun e W' => ∃ v, e = .returned v ∧ s.post enc C.prog fn apart fresh handsOn again W args v W') :
    ReturnsInHanded {} C os f .any (fun w args => (s.pre enc C.prog fn conds apart w args ∧ laidMetH C.prog L w) ∧ sizedMet enc C.prog fn (OpenSpec.ofChange s) apart w args) (s.post enc C.prog fn apart fresh handsOn again) := by
  refine returnsInHanded_of_calls own started noInit wit fun w tape i _ shaped _ ok pre _ => ?_
  rcases ok with ⟨_, _, _, fn2, h2, _, _, _, _, vals⟩
  cases Option.some.inj (h2.symm.trans hfn)
  rcases pre with ⟨⟨⟨ds, gs, before, whole, cond⟩, met⟩, _⟩
  have met2 : laidMetH C.prog L (w.forCall tape i) := laidMetH.of_heap (by rfl) met
  refine (walk _ w.heap.size i.args ds gs before shaped met2 vals (DataW.Whole.of_heap (by rfl) whole) cond).mono ?_
  rintro e w2 ⟨v, rfl, hp⟩
  exact ChangeSpec.post_blind hp
end Go.Proofs.YthngfihpnfoppaaDoor

namespace Go.Proofs.YthngfihpnfoppaaDoor
open Go.RowKit Go.Lib Go.Shelf

theorem first_data : Go.Pinned.utf8First = firstData := by kernel_rfl
theorem accept_data : (Rows.laid_unicode_utf8_acceptRanges : DataW Unit) = acceptData := by kernel_rfl
theorem tabs_of {w : World} (h3 : VarReads Tryd.prog w "unicode/utf8.first" Go.Pinned.utf8First) (h4 : VarReads Tryd.prog w "unicode/utf8.acceptRanges" Rows.laid_unicode_utf8_acceptRanges) : Tabs w := by
  rw [first_data] at h3; rw [accept_data] at h4
  exact utf8Tabs_of_readsT (U8Types.of196 Tryd.laysValid) ⟨by kernel_rfl, by kernel_rfl, by kernel_rfl, by kernel_rfl, by kernel_rfl, by kernel_rfl, by kernel_rfl⟩ h3 h4
end Go.Proofs.YthngfihpnfoppaaDoor

namespace Go.Proofs.YthngfihpnfoppaaDoor
open Go.RowKit Go.Lib Go.Shelf

theorem ten_data : (Rows.laid_internal_strconv_uint64pow10 : DataW Unit) = tabData .u64 pow10Tab := by kernel_rfl
theorem tenTab_of {w : World} (h : VarReads Tryd.prog w "internal/strconv.uint64pow10" Rows.laid_internal_strconv_uint64pow10) : TenTab w := by
  rw [ten_data] at h
  obtain ⟨g', t', cs, fuel, p, hg', ht', hvar, hd⟩ := h
  obtain rfl := Option.some.inj (tenG.symm.trans hg')
  obtain rfl := Option.some.inj ((show (Tryd.prog.globals[2]?).map (·.type) = some 91 by kernel_rfl).symm.trans ht')
  unfold TenTab TabIs
  rw [hvar, ← cells_of_tab Tryd.underlying91 Tryd.underlying83 (by kernel_rfl) (by kernel_rfl) hd]
end Go.Proofs.YthngfihpnfoppaaDoor

namespace Go.Proofs.YthngfihpnfoppaaDoor.FnPlain
open Go.ChangeShapes Go.WideShapes Go.ChangeAt Go.RowKit Go.Joins
open Go.ChangeMaps (open_string shut_string)

theorem own : ownKnob Tryd.prog.godebug = none := by kernel_rfl
theorem laidOut : laidOutB Tryd.prog = true := by kernel_rfl

set_option maxRecDepth 100000 in
theorem lifted (os : Os) (started : os.Started) (H : Type) (enc : TypeId × Value → H) :
    ReturnsInHanded {} Tryd.checked os 3 .any (fun w args => (Rows.fnPlainSpec.pre enc Tryd.prog Tryd.f3 Rows.fnPlainRow.domain false w args ∧ laidMetH Tryd.prog Rows.fnPlainRow.laid w) ∧ sizedMet enc Tryd.prog Tryd.f3 (OpenSpec.ofChange Rows.fnPlainSpec) false w args) (Rows.fnPlainSpec.post enc Tryd.prog Tryd.f3 false true false false) := by
  refine laid_of (C := Tryd.checked) Rows.fnPlainRow.laid own started (by kernel_rfl) Tryd.func3
    (ChangeSpec.witness_shaped (enc := enc) (C := Tryd.checked) (os := os) (X := fun w _ => laidMetH Tryd.prog Rows.fnPlainRow.laid w) false (World.laidAll Tryd.prog os Rows.fnPlainRow.laid) #[.slice none 0 0] 8 (World.laidAll_os _ _ _)
      (World.shaped_of_ZipB (by kernel_rfl) (by kernel_rfl)) (by kernel_rfl) (by kernel_rfl) (by kernel_rfl)
      (by rw [MakeChecks.laidMetH_plain _ _ _ (by kernel_rfl)]; exact laidMet_laidAll _ (by kernel_rfl) (by kernel_rfl))) ?_
  intro W base args ds gs before hsh hL hval0 hW hcnd
  have hval : ∀ (j : Nat) t v, Tryd.f3.params[j]? = some t → args[j]? = some v → Value.okWide Tryd.prog W .any base t v := hval0
  have hW' := hW
  obtain ⟨p, q, hA0, hV, rfl, hfz, hnd⟩ := hW
  have hA : DataW.TrodAll enc Tryd.prog W 0 (fun _ => true) true Tryd.f3.params.toList args.toList ds p := hA0
  rw [Tryd.params3] at hA hval
  obtain ⟨v0, vs0, d0, ds0, p0, q0, hargs, rfl, rfl, h0, r0⟩ := trodAll_cons hA
  obtain ⟨rfl, rfl, rfl⟩ := trodAll_nil r0
  obtain rfl : args = #[v0] := by cases args; simp_all
  obtain ⟨rfl, rfl⟩ := trodVars_none hV
  have k0 := h0
  have lt0 : ∀ x ∈ p0, x.block < W.heap.size := by obtain ⟨m, hm⟩ := k0; exact DataW.trod_lt m _ _ _ hm
  obtain ⟨pa0, pl0, pc0, rfl⟩ := okWide_slice Tryd.underlying22 (hval 0 22 v0 rfl rfl)
  obtain ⟨fu0, hf0⟩ := h0
  obtain ⟨x0, w0, e0, hx0⟩ := trod_code fu0 _ _ hf0
  obtain rfl : w0 = .slice pa0 pl0 pc0 := by simpa [Value.cells, eq_comm] using e0
  clear hA0 hval0
  have hL2 := hL
  rw [MakeChecks.laidMetH_plain _ _ _ (by kernel_rfl)] at hL2
  have hT := tabs_of (Lib.laidMet.reads hL2 (.tail _ (.tail _ (.tail _ (.tail _ (.head _)))))) (Lib.laidMet.reads hL2 (.tail _ (.tail _ (.tail _ (.head _)))))
  have hTen := tenTab_of (Lib.laidMet.reads hL2 (.tail _ (.tail _ (.head _))))
  refine (fnPlainW x0 (.slice pa0 pl0 pc0) W (ngl_of hsh) hT hTen hx0).mono fun e W' ⟨he, bel⟩ => ?_
  subst he
  exact ⟨_, rfl, _, _, _, [], _, [], hW', trodAll_mk1 (shut_bool Tryd.underlying4 _), (trodAll_cons_mk (Below.trod laidOut (by kernel_rfl) (of_decide_eq_true (by kernel_rfl)) k0 bel lt0) trodAll_mk0), rfl, bel.frame _, fun h => by cases h⟩

set_option maxHeartbeats 8000000 in
theorem closed : joinedFacts Tryd.prog 3 Tryd.f3 Rows.fnPlainSpec Rows.fnPlainRow = true := by
  unfold joinedFacts
  simp only [Bool.and_eq_true]
  refine ⟨⟨⟨⟨⟨⟨⟨⟨⟨⟨⟨⟨⟨⟨⟨⟨⟨⟨⟨⟨⟨⟨⟨⟨⟨⟨⟨⟨⟨⟨⟨?_, ?_⟩, ?_⟩, ?_⟩, ?_⟩, ?_⟩, ?_⟩, ?_⟩, ?_⟩, ?_⟩, ?_⟩, ?_⟩, ?_⟩, ?_⟩, ?_⟩, ?_⟩, ?_⟩, ?_⟩, ?_⟩, ?_⟩, ?_⟩, ?_⟩, ?_⟩, ?_⟩, ?_⟩, ?_⟩, ?_⟩, ?_⟩, ?_⟩, ?_⟩, ?_⟩, ?_⟩
  · as_aux_lemma => kernel_rfl
  · as_aux_lemma => kernel_rfl
  · as_aux_lemma => kernel_rfl
  · as_aux_lemma => kernel_rfl
  · as_aux_lemma => kernel_rfl
  · as_aux_lemma => kernel_rfl
  · as_aux_lemma => kernel_rfl
  · as_aux_lemma => kernel_rfl
  · as_aux_lemma => kernel_rfl
  · as_aux_lemma => kernel_rfl
  · as_aux_lemma => kernel_rfl
  · as_aux_lemma => kernel_rfl
  · as_aux_lemma => kernel_rfl
  · as_aux_lemma => kernel_rfl
  · as_aux_lemma => kernel_rfl
  · as_aux_lemma => kernel_rfl
  · as_aux_lemma => kernel_rfl
  · as_aux_lemma => kernel_rfl
  · as_aux_lemma => kernel_rfl
  · as_aux_lemma => kernel_rfl
  · as_aux_lemma => kernel_rfl
  · as_aux_lemma => kernel_rfl
  · as_aux_lemma => kernel_rfl
  · as_aux_lemma => kernel_rfl
  · as_aux_lemma => kernel_rfl
  · as_aux_lemma => kernel_rfl
  · as_aux_lemma => kernel_rfl
  · as_aux_lemma => kernel_rfl
  · as_aux_lemma => kernel_rfl
  · as_aux_lemma => kernel_rfl
  · as_aux_lemma => kernel_rfl
  · as_aux_lemma => kernel_rfl
theorem wf0 : Rows.fnPlainRow.wfByText (OpenSpec.ofChange Rows.fnPlainSpec) = true := by kernel_rfl
theorem main0 : Tryd.prog.mainIs = some (Rows.fnPlainCard.stood.harness.1, Rows.fnPlainCard.stood.harness.2.toList) := by kernel_rfl
theorem looks0 : false = Tryd.prog.looks [] := by kernel_rfl
theorem goes0 : false = Rows.fnPlainRow.goesBy Tryd.prog := by kernel_rfl

theorem held : Rows.FnPlainSaid :=
  OpenClaim.holds_of_wide 3 Tryd.f3 rfl rfl rfl rfl rfl rfl rfl ⟨rfl, rfl, rfl, rfl, rfl⟩ rfl rfl rfl rfl rfl (by kernel_rfl) Tryd.func3 closed
    (of_decide_eq_true (by kernel_rfl)) (by unfold Func.isWrapper; first | (rw [if_pos (by decide +kernel)]; kernel_rfl) | (rw [if_neg (by decide +kernel)]; exact ⟨rfl, rfl⟩))
    (fun os started H enc _ => lifted os started H enc)

theorem proved : Rows.FnPlainCardSaid :=
  Claim7.holds_tied_plain_at .later [] [.data, .data, .data, .data, .pinned] true Rows.fnPlainCard.stood.harness false
    held (fun _ h => by cases h) wf0 (fun _ h => by cases h) fnPlain_row_tie rfl ⟨rfl, rfl⟩ main0 rfl
    (fun f fn hf hfn => by
      obtain rfl : f = 3 := Option.some.inj ((show Tryd.prog.funcNamed "loop.example/g00421/laws.FnPlain" = some 3 by kernel_rfl).symm.trans hf) |>.symm
      obtain rfl : fn = Tryd.f3 := (Option.some.inj (Tryd.func3.symm.trans hfn)).symm
      refine ⟨looks0, fun j t ht => ?_⟩
      rw [Tryd.params3] at ht
      have hm : t ∈ [22] := by simpa using Array.mem_of_getElem? ht
      have hall : ([22].all fun u => !Tryd.prog.wantsStandIn u) = true := by kernel_rfl
      exact (show Tryd.prog.wantsStandIn t = false by simpa using List.all_eq_true.1 hall t hm))
    goes0
end Go.Proofs.YthngfihpnfoppaaDoor.FnPlain
