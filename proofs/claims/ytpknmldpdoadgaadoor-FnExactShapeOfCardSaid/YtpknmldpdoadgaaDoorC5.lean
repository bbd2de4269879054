/- Part 5 of a proof: App1, CloneS, PvJ6, PvJ7, PvJ8, PvMO, PlainDef, ShOfDef, Read, ValueOkS, PvO1, Concat, PvMK, PvJ9, PvJA, PvJB, ValueSame, ValueKids, ValueNode -/
import Derived.Test.YtpknmldpdoadgaaDoorC4
import Derived.Lib.LazyBuf
import Derived.Test.YtpknmldpdoadgaaDoorChecked
import Derived.KernelRfl
import Derived.Lib.ItoaLen
import Derived.ProofKit
import Derived.Deep.RegionHeld3
import Derived.Deep.QuietTactic
import Derived.BigQuiet
import Derived.StillTailTactics
import Derived.Lib.AppendZeros
import Derived.RegionTactic
import Derived.ChangeAlike

/- An append of a row of texts, which may be nil or empty, inside a region that draws its order. -/
namespace Go.Proofs.YtpknmldpdoadgaaDoor
open Go.RowKit

theorem step_appS {P : Program} {ops : Array Oper} {o : Oper} {a : Act} {w : World} {K : Act → World → Prop} {Q : Exit → Act → World → Prop} {E : Prop} {t e : TypeId} {bytes : Nat} {s x : Operand} {v v2 : Value} {xs : List Value} {ls : List (List UInt8)}
    (T : ElemTy P t e 1 bytes) (hgd : o.guard = none) (ho : o.op = .call { callee := .builtin .append, args := #[s, x], argTypes := #[t, t] })
    (B : Nat) (hown : OwnR w B e v xs) (hs : a.eval s = v) (hsrc : StrRow w v2 ls) (hx : a.eval x = v2)
    (h63 : xs.length + ls.length ≤ 4294967296) (hby : bytes ≤ 32768) (hB : B ≤ w.heap.size)
    (h : ∀ v' w', OwnR w' B e v' (xs ++ ls.map strV) → w.grownBy w' v.ownBlock → (v' = .slice none 0 0 → v = .slice none 0 0) → K (a.put o.dst v') w') :
    if Region.wanted o (yielded ops a.tmps) = true then Oper.wp P o a w K Q else E := by
  have hw : Region.wanted o (yielded ops a.tmps) = true := by simp [Region.wanted, hgd]
  rw [if_pos hw]
  obtain ⟨ao, c, rfl, hg⟩ := hsrc
  have hlen : (ls.map strV).length = ls.length := List.length_map _
  obtain ⟨i, z, g1, g2, g3, g4, g5⟩ := T.info
  cases ao with
  | some ad =>
    refine wp_append_own w s x t ho B e i z 1 bytes T.under g1 g2 g3 g4 g5 T.pos v xs.length xs hs hown ad ls.length c (ls.map strV) (by rw [hx]) (by rw [hlen]; simp) ?_ (strV_one ls) (by unfold maxLen; omega) (Nat.le_trans (Nat.mul_le_mul h63 hby) (by decide)) hB ?_
    · intro j u hj
      rw [List.getElem?_map] at hj
      by_cases hl : j < ls.length
      · obtain ⟨b, o', hb, hc⟩ := hg (by intro e; rw [e] at hl; simp at hl)
        simp only [Option.some.injEq] at hb; subst hb
        rw [List.getElem?_eq_getElem hl] at hj; simp at hj; subst hj
        rw [add_plain]; exact hc j hl
      · rw [List.getElem?_eq_none (by omega)] at hj; simp at hj
    · intro v' w' h2 h3 h4
      refine h v' w' ?_ h3 (fun e => (h4.1 e).1)
      unfold OwnR; rw [List.length_append, hlen]; exact h2
  | none =>
    have h0 : ls = [] := by
      by_cases h0 : ls = []
      · exact h0
      · obtain ⟨b, o', hb, _⟩ := hg h0; cases hb
    subst h0
    have hrun := run_app_none (P := P) (w := w) B t o.type e i 1 T.under g1 v xs.length xs hown c
    unfold Oper.wp
    have hx' : a.eval x = .slice none 0 c := hx
    simp [execOp, ho, resolve, invoke, builtin, hs, hx', hrun, Result.andThen]
    exact h v w (by simpa using hown) ⟨rfl, rfl, rfl, Nat.le_refl _, fun _ _ _ => rfl⟩ id
/-- a row of the call's own, over a store into another block -/
theorem OwnR.setCell {w : World} {B e : Nat} {v : Value} {xs : List Value} (h : OwnR w B e v xs) {p : Addr} (hp : p.block < B) (u : Value) : OwnR (w.setCell p u) B e v xs := ownsRow_setCell_below h hp u
theorem shBox.set4 {w : World} {g : Nat} {k l h m : Int} {v1 v2 : Value} (hb : shBox w g k l h v1 m v2) (n : Int) : shBox (w.setCell ⟨g, 4, none⟩ (.int .i64 n)) g k l h v1 n v2 := by
  have := heap_setCell_at (o := 4) hb (.int .i64 n)
  exact this
end Go.Proofs.YtpknmldpdoadgaaDoor

/- slices.Clone of texts. -/
namespace Go.Proofs.YtpknmldpdoadgaaDoor
open Go.RowKit

set_option maxHeartbeats 1000000 in
set_option maxRecDepth 10000 in
theorem cloneS_any (ks : List (List UInt8)) (v : Value) (w : World) (h : StrRow w v ks) (hl : ks.length ≤ 4294967290) :
    Calls Tryd.prog 68 #[v] w fun e w' => ∃ v', e = .returned v' ∧ Below w.heap.size w w' ∧ OwnR w' w.heap.size 9 v' (ks.map strV) := by
  have q24 : ∀ (w : World) (a : Option Addr) (n c : Nat), (binOp .eql 22 (.slice a n c) (.slice none 0 0)).run Tryd.prog w = .ok (.bool a.isNone) w := fun w a n c => Lib.run_eql_slice_nil w _ _ a n c 0 0 Tryd.underlying22
  have hrow := h.alloc (.cells #[] 9)
  obtain ⟨ao, c, rfl, hg⟩ := h
  cases ao with
  | none =>
    have h0 : ks = [] := by
      by_cases h0 : ks = []
      · exact h0
      · obtain ⟨b, o', hb, _⟩ := hg h0; cases hb
    subst h0
    clear hrow hg
    go_enter Tryd.func68, Tryd.ntmps68
    go_wp2
    go_ret
    exact ⟨_, rfl, Below.refl _ _, OwnR.nil⟩
  | some ad =>
    clear hg
    go_enter Tryd.func68, Tryd.ntmps68
    go_wp2_with (at_builtin; refine wp_appS tyStr rfl rfl w.heap.size OwnR.start rfl hrow rfl (by simp; omega) (by decide) (by simp) ?_)
    intro v1 w1 hown1 hgr1 hn1
    have hb1 := OwnR.grown OwnR.start ((Below.refl w.heap.size w).alloc (Nat.le_refl _) _) hgr1 (by simp)
    go_wp2
    go_ret
    exact ⟨_, rfl, hb1, by simpa using hown1⟩

end Go.Proofs.YtpknmldpdoadgaaDoor

/- impl: hasBounds, isNumeric, field, ownShape on values without memory. -/
namespace Go.Proofs.YtpknmldpdoadgaaDoor
open Go.RowKit
variable {T : World → Prop} {hT : Low ngl T}

theorem numeric_fn (k : Int) : FnV (env T hT) 50 [.d (pI k)] (.d (pB (numK k))) := by
  refine fn_of (look_env lk_i_isNumeric) (by show 1 ≤ 9; decide) fun B hB => ?_
  unfold m_i_isNumeric
  refine mw_seq (mw_ops ?_)
  refine po_q rfl rfl ?_
  refine po_nil ?_
  refine mw_seq (mw_ops ?_)
  repeat' (first | refine po_skip rfl ?_ | refine po_bc rfl rfl (fun hb => ?_) (fun hb => ?_) | refine po_q rfl rfl ?_)
  all_goals
    refine po_nil ?_
    refine mw_ret ⟨.inr rfl, _, rfl, ?_⟩
    first
      | (have e1 : numK k = true := by clear hB; simp_all [numK]
         rw [e1]; rfl)
      | (have e1 : numK k = false := by clear hB; simp_all [numK]
         rw [e1]; rfl)
theorem bounds_fn (k : Int) : FnV (env T hT) 49 [.d (pI k)] (.d (pB (bdK k))) := by
  refine fn_of (look_env lk_i_hasBounds) (by show 1 ≤ 17; decide) fun B hB => ?_
  unfold m_i_hasBounds
  refine mw_seq (mw_ops ?_)
  refine po_q rfl rfl ?_
  refine po_nil ?_
  refine mw_seq (mw_ops ?_)
  repeat' (first | refine po_skip rfl ?_ | refine po_bc rfl rfl (fun hb => ?_) (fun hb => ?_) | refine po_q rfl rfl ?_)
  all_goals
    refine po_nil ?_
    refine mw_ret ⟨.inr rfl, _, rfl, ?_⟩
    first
      | (have e1 : bdK k = true := by clear hB; simp_all [bdK]
         rw [e1]; rfl)
      | (have e1 : bdK k = false := by clear hB; simp_all [bdK]
         rw [e1]; rfl)

theorem index_fn (ks : List (List UInt8)) (key : List UInt8) (hl : ks.length ≤ 4294967295) : FnV (env T hT) 86 [.d (pSs ks), .d (pS key)] (.d (pI (ixF ks key 0))) := by
  refine FnV.old rfl ?_
  intro w C vs hF hng hT hl2 hv
  match vs, hl2 with
  | [v, k], _ =>
    have h1 := vRd1 hF (dSs_wf ks) (dSs_pc ks) (hv 0 _ _ rfl rfl)
    have h2 := pS_val (hv 1 _ _ rfl rfl)
    subst h2
    exact slicesIndex_any ks v key w h1.strRow (by omega)
theorem clone_fn (ks : List (List UInt8)) (hl : ks.length ≤ 4294967290) : FnO (env T hT) 68 [.d (pSs ks)] (.d (pSs ks)) := by
  refine FnO.oldR (te := 9) ?_
  intro w C vs hF hng hT hl2 hv
  match vs, hl2 with
  | [v], _ =>
    have h1 := vRd1 hF (dSs_wf ks) (dSs_pc ks) (hv 0 _ _ rfl rfl)
    exact (cloneS_any ks v w h1.strRow hl).mono fun e w' h => h
/-- the place of a key among a shape's keys -/
def fldV (a : Sh) (key : List UInt8) : Sh := if 0 ≤ ixF a.keys key 0 then kidAt a key else shNil
theorem field_fn (a : Sh) (key : List UInt8) (hl : a.keys.length ≤ 4294967295) (hk : a.keys.length ≤ a.kids.length) : FnV (env T hT) 72 [.ag (shC a), .d (pS key)] (.tup [.ag (shC (fldV a key)), .d (pB (decide (0 ≤ ixF a.keys key 0) && decide (ixF a.keys key 0 < a.must))), .d (pB (decide (0 ≤ ixF a.keys key 0)))]) := by
  refine fn_of (look_env lk_i_Shape_field) (by show 2 ≤ 24; decide) fun B hB => ?_
  unfold m_i_Shape_field
  refine mw_seq (mw_ops ?_)
  refine po_box rfl ?_
  refine po_zero ?_
  iterate 2 (refine po_q rfl rfl ?_)
  refine po_nil ?_
  refine mw_seq (mw_ops ?_)
  iterate 3 (refine po_q rfl rfl ?_)
  refine po_call (key_arg a.keys key) (index_fn a.keys key hl) ?_
  refine po_q rfl rfl ?_
  refine po_nil ?_
  refine mw_seq (mw_seq (mw_ops ?_))
  refine po_q rfl rfl ?_
  refine po_b rfl rfl (fun b1 hb1 => ?_)
  refine po_nil ?_
  refine mw_cond rfl (fun hc => ?_) (fun hc => ?_)
  · have h1 : ¬ 0 ≤ ixF a.keys key 0 := by rw [hb1] at hc; have := of_decide_eq_true hc; omega
    refine mw_seq (mw_ops ?_)
    refine po_q rfl rfl ?_
    refine po_store rfl rfl rfl ⟨rfl, Nat.le_of_ble_eq_true rfl⟩ rfl ?_
    iterate 2 (refine po_q rfl rfl ?_)
    refine po_nil ?_
    refine mw_ret ⟨.inr rfl, _, rfl, ?_⟩
    rw [fldV, if_neg h1, decide_eq_false h1]
    rfl
  · have h1 : 0 ≤ ixF a.keys key 0 := by rw [hb1] at hc; have := of_decide_eq_false hc; omega
    obtain ⟨i, hi, hil⟩ := ix_at h1 hk
    refine mw_skip ?_
    refine mw_seq (mw_ops ?_)
    iterate 3 (refine po_q rfl rfl ?_)
    refine po_ix (es := shK a.kids) (e := shC a.kids[i]) rfl rfl rfl ⟨h1, by rw [hi, Int.toNat_natCast]; exact shK_get hil⟩ rfl ?_
    iterate 5 (refine po_q rfl rfl ?_)
    refine po_store rfl rfl rfl ⟨rfl, Nat.le_of_ble_eq_true rfl⟩ rfl ?_
    iterate 2 (refine po_q rfl rfl ?_)
    refine po_nil ?_
    refine mw_ret ⟨.inr rfl, _, rfl, ?_⟩
    rw [fldV, if_pos h1, decide_eq_true h1, kidAt_eq hi hil, Bool.true_and]
    exact congrArg (fun l => some (PV.tup [.ag l, .d (pB (decide (ixF a.keys key 0 < a.must))), .d (pB true)])) (shC_er a.kids[i])
end Go.Proofs.YtpknmldpdoadgaaDoor

/- impl.ownShape, checkedShape on values without memory. -/
namespace Go.Proofs.YtpknmldpdoadgaaDoor
open Go.RowKit
variable {T : World → Prop} {hT : Low ngl T}

section
variable {E : Env} {d : Nat} {r : List MOpr} {K : St → Prop} {tm : Nat → PV} {bx : List (List PC)} {nt : Nat} {live : List Nat}
/-- a new variable -/
theorem po_new {n : Nat} {z : List Value} {x : X} {cs : List PC} {c : List X} (hx : pcells (ev (up d (.ref bx.length 0) tm) x) = some cs) (hn : cs.length = n) (hz : z.length = n) (hc : c.all (apartX (ev (up d (.ref bx.length 0) tm)) (.t d)) = true)
    (h : po E r K ⟨up d (.ref bx.length 0) tm, bx ++ [cs], nt, live⟩) : po E (⟨some d, .zero z, none, []⟩ :: ⟨none, .store n (.t d) x, none, c⟩ :: r) K ⟨tm, bx, nt, live⟩ := by
  refine po_zero ?_
  have hz0 : (bx ++ [z.map ofC])[bx.length]? = some (z.map ofC) := by rw [List.getElem?_append_right (Nat.le_refl _), Nat.sub_self]; rfl
  have ha : ev (up d (.ref bx.length 0) tm) (.t d) = .ref bx.length 0 := by
    show up d (.ref bx.length 0) tm d = _
    rw [← up_eq]; exact if_pos rfl
  refine po_store ha hx hz0 ⟨hn, by rw [List.length_map]; omega⟩ hc ?_
  have e1 : spl (z.map ofC) 0 cs = cs := by
    unfold spl
    rw [List.take_zero, List.nil_append, List.drop_of_length_le (by rw [List.length_map]; omega), List.append_nil]
  have e2 : (bx ++ [z.map ofC]).set bx.length cs = bx ++ [cs] := by
    rw [List.set_append_right _ _ (Nat.le_refl _), Nat.sub_self]; rfl
  rw [e1, e2]; exact h
/-- a load from a box whose place is told by a proof -/
theorem po_ld {ag : Bool} {n p o : Nat} {x : X} {c : List X} {g : Option (Nat × Bool)} {cs : List PC} {v : PV} (hg : gd g tm = some true) (hx : ev tm x = .ref p o) (hb : bx[p]? = some cs) (hn : o + n ≤ cs.length) (hv : ldv ag ((cs.drop o).take n) = some v)
    (h : po E r K ⟨up d v tm, bx, nt, live⟩) : po E (⟨some d, .load ag n x, g, c⟩ :: r) K ⟨tm, bx, nt, live⟩ := by
  refine po_q hg ?_ h
  simp only [qf, hx, hb, if_pos hn, hv]
end
theorem shO_toks (x : Sh) (c k : PC) : toksL (shO x c k) = toksL [c, k] := by simp [shO, toksL, PC.toks, pI]
theorem shO_owned (x : Sh) (c k : PC) : ownedL (shO x c k) = ownedL [c, k] := by simp [shO, ownedL, PC.owned, pI]
theorem row_of {c : PC} {es : List (List PC)} (h : c.er = .sl 0 es) : ∃ t rows, c = .sl t rows ∧ erLL rows = es := by
  cases c with
  | v x => simp [PC.er] at h
  | sl t r => simp only [PC.er, PC.sl.injEq, true_and] at h; exact ⟨t, r, rfl, h⟩

theorem po_rw {E : Env} {d : Nat} {c : List X} {r : List MOpr} {K : St → Prop} {tm : Nat → PV} {bx : List (List PC)} {nt : Nat} {live : List Nat} {f : Nat} {xs : List X} {args : List PV} {es : List (List PC)} (hd : PV.dats (xs.map (ev tm)) = some args) (hF : FnO E f args (.d (.sl 0 es)))
    (h : ∀ (t : Nat) (rows : List (List PC)) (nt' : Nat), erLL rows = es → nt + 2 ≤ nt' → PC.owned (.sl t rows) = true → (PC.toks (.sl t rows)).Nodup → (∀ s ∈ PC.toks (.sl t rows), nt ≤ s ∧ s < nt') → po E r K ⟨up d (.d (.sl t rows)) tm, bx, nt', PC.toks (.sl t rows) ++ live⟩) : po E (⟨some d, .call f xs, none, c⟩ :: r) K ⟨tm, bx, nt, live⟩ := by
  refine po_own hd hF ?_
  rintro (c | cs | _ | _ | _ | _) nt2 hx hnd hmem hnt2 hown <;> try exact hown.elim
  · simp only [PV.dat, Option.some.injEq, PV.d.injEq] at hx
    obtain ⟨t, rows, rfl, hr⟩ := row_of hx
    exact h t rows nt2 hr hnt2 hown hnd hmem
  · simp [PV.dat] at hx
def OwF (x : Sh) (tr : Nat) (rows : List (List PC)) (i : Nat) : List (Nat × PV) := [(1, .ref 0 0), (2, .ref 1 0), (3, .d (.sl tr rows)), (12, .d (.sl 0 (shK x.kids))), (13, .d (pI x.kids.length)), (14, .d (pI i))]
def OwI (x : Sh) (tk : Nat) (rk : List (List PC)) (m : Nat) (s : St) : Prop := ∃ (i tr : Nat) (rows rest : List (List PC)), i ≤ x.kids.length ∧ m = x.kids.length - i ∧ has s.tm (OwF x tr rows i) ∧ s.bx = shO x (.sl tk rk) (.sl 0 (shK x.kids)) :: zSh :: rest ∧ erLL rows = shK (x.kids.take i) ∧ 2 ≤ tr ∧ 2 ≤ s.nt ∧ OwnL s.nt s.live [.sl tk rk, .sl tr rows]
theorem own_step {n : Nat} (ih : ∀ x : Sh, x.nodes ≤ n → x.bulk ≤ 4294967280 → FnO (env T hT) 47 [.ag (shC x)] (.ag (shC x))) (x : Sh) (hkl : x.keys.length ≤ 4294967280) (hkk : x.kids.length ≤ 4294967280)
    (hkid : ∀ (j : Nat) (h : j < x.kids.length), x.kids[j].nodes ≤ n ∧ x.kids[j].bulk ≤ 4294967280) : FnO (env T hT) 47 [.ag (shC x)] (.ag (shC x)) := by
  refine fn_of (look_env lk_i_ownShape) (by show 1 ≤ 27; decide) fun B hB => ?_
  unfold m_i_ownShape
  refine mw_seq (mw_ops ?_)
  refine po_box rfl ?_
  refine po_zero ?_
  refine po_nil ?_
  refine mw_seq (mw_ops ?_)
  iterate 2 (refine po_q rfl rfl ?_)
  refine po_rw (args := [.d (pSs x.keys)]) (es := pSr x.keys) (congrArg (fun l => some [PV.d l]) (pSs_er x.keys)) (clone_fn x.keys (by omega)) ?_
  intro tk rk nt2 hrk hnt2 hown hnd hmem
  replace hnt2 : 2 + 2 ≤ nt2 := hnt2
  refine po_q rfl rfl ?_
  refine po_store rfl rfl rfl ⟨rfl, Nat.le_of_ble_eq_true rfl⟩ rfl ?_
  refine po_nil ?_
  refine mw_seq (mw_ops ?_)
  refine po_lit rfl ?_
  refine po_q rfl rfl ?_
  refine po_nil ?_
  have hO0 : OwnL (nt2 + 1) (nt2 :: (PC.toks (.sl tk rk) ++ [])) [.sl tk rk, .sl nt2 []] := by
    have e : toksL [PC.sl tk rk, .sl nt2 []] = PC.toks (.sl tk rk) ++ [nt2] := by
      simp only [toksL, toks_sl2 (show 2 ≤ nt2 by omega), toksLL, List.append_nil]
    refine ⟨?_, ?_, fun t ht => ?_⟩
    · simp only [ownedL, owned_sl2 (show 2 ≤ nt2 by omega), Bool.and_true]
      rw [show PC.owned (.sl tk rk) = true from hown]; rfl
    · rw [e, List.nodup_append]
      refine ⟨hnd, by simp, fun a ha b hb hab => ?_⟩
      rw [List.mem_singleton] at hb; subst hb; subst hab
      have := hmem a ha; omega
    · rw [e] at ht
      rcases List.mem_append.1 ht with ht | ht
      · have := hmem t ht; exact ⟨List.mem_cons_of_mem _ (List.mem_append.2 (.inl ht)), by omega⟩
      · rw [List.mem_singleton] at ht; subst ht; exact ⟨List.mem_cons_self, by omega⟩
  refine mw_cut (fun s => ∃ m, OwI x tk rk m s ∧ m = 0) ?_ ?_
  · refine mw_seq (mw_ops ?_)
    iterate 4 (refine po_q rfl rfl ?_)
    refine po_nil ?_
    refine mw_block ?_
    refine mw_while (OwI x tk rk) x.kids.length ⟨0, nt2, [], [], Nat.zero_le _, by simp, ⟨rfl, rfl, rfl, rfl, congrArg (fun n : Nat => PV.d (pI n)) (shK_len x.kids), rfl, trivial⟩, rfl, rfl, by omega, by show 2 ≤ nt2 + 1; omega, hO0⟩ ?_
    clear hO0
    rintro m tm bx nt live ⟨i, tr, rows, rest, hi, rfl, ht, hbx, hr, h2, hnt, hO⟩
    obtain ⟨tm0, rfl⟩ := has_ups ht
    simp only at hbx hnt hO; subst hbx
    refine mw_seq (mw_ops ?_)
    refine po_b rfl rfl (fun b1 hb1 => ?_)
    refine po_nil ?_
    refine mw_seq (mw_cond rfl (fun hc => ?_) (fun hc => ?_))
    · have hlt : i < x.kids.length := by subst hb1; have := of_decide_eq_true hc; omega
      refine mw_skip ?_
      refine mw_seq (mw_block (mw_seq (mw_ops ?_)))
      refine po_ix (es := shK x.kids) (e := shC x.kids[i]) rfl rfl rfl ⟨by omega, by rw [Int.toNat_natCast]; exact shK_get hlt⟩ rfl ?_
      refine po_q rfl rfl ?_
      refine po_new (cs := shC x.kids[i]) rfl rfl rfl rfl ?_
      refine po_nil ?_
      refine mw_ops ?_
      refine po_q rfl rfl ?_
      refine po_ld (v := .ag (shC x.kids[i])) (cs := shC x.kids[i]) rfl rfl (by rw [List.getElem?_append_right (Nat.le_refl _), Nat.sub_self]; rfl) (Nat.le_refl 6) rfl ?_
      refine po_sh (shC_arg _) (ih _ (hkid i hlt).1 (hkid i hlt).2) ?_
      intro c0 c1 c2 c3 c4 c5 nt' hx hnt3 hN
      refine po_lit rfl ?_
      have hrl := erLL_len hr
      rw [shK_len, List.length_take] at hrl
      refine po_app (t := tr) (es := rows) (ds := [[c0, c1, c2, c3, c4, c5]]) rfl rfl (.inr ?_) (by rw [List.length_singleton]; omega) (by simp) (erLL_wid hr (shK_wid _)) ?_
      · exact List.mem_cons_of_mem _ (List.mem_append.2 (.inr (hO.mem tr (by simp only [toksL, toks_sl2 h2]; simp)).1))
      refine po_q rfl rfl ?_
      refine po_nil ?_
      refine mw_ops ?_
      iterate 2 (refine po_q rfl rfl ?_)
      refine po_nil ?_
      refine ⟨x.kids.length - (i + 1), by omega, i + 1, nt' + 1, rows ++ [[c0, c1, c2, c3, c4, c5]], rest ++ [shC x.kids[i]], hlt, rfl, ⟨rfl, rfl, rfl, rfl, rfl, ?_, trivial⟩, rfl, ?_, by omega, by show 2 ≤ nt' + 1 + 1; omega, ?_⟩
      · show PV.d (.v (.int .i64 (IntKind.wrap .i64 ((i : Int) + 1)))) = _
        rw [wrap_lt (by omega) (by omega)]; rfl
      · rw [erLL_append, hr, shK_take hlt, ← hx]; rfl
      · have h1 := hO.push (nt' := nt' + 1) (a := [.sl tk rk]) (b := []) h2 (by omega) hN.own hN.nd (fun t ht => ⟨(hN.mem t ht).1, by have := (hN.mem t ht).2; omega⟩) (by omega)
        refine h1.mono (Nat.le_refl _) fun t ht _ => ?_
        rcases List.mem_cons.1 ht with h | h
        · subst h; exact List.mem_cons_self
        · obtain ⟨h3, h4⟩ := List.mem_filter.1 h
          exact List.mem_cons_of_mem _ (List.mem_filter.2 ⟨List.mem_cons_of_mem _ h3, h4⟩)
    · have hge : i = x.kids.length := by subst hb1; have := of_decide_eq_false hc; omega
      refine mw_exit ?_
      exact ⟨0, ⟨i, tr, rows, rest, hi, by omega, ⟨rfl, rfl, rfl, rfl, rfl, rfl, trivial⟩, rfl, hr, h2, hnt, hO⟩, rfl⟩
  clear hO0
  rintro tm bx nt live ⟨m, ⟨i, tr, rows, rest, hi, rfl, ht, hbx, hr, h2, hnt, hO⟩, hm⟩
  obtain ⟨tm0, rfl⟩ := has_ups ht
  simp only at hbx hnt hO; subst hbx
  have hie : i = x.kids.length := by omega
  rw [hie, List.take_length] at hr
  refine mw_seq (mw_ops ?_)
  iterate 2 (refine po_q rfl rfl ?_)
  refine po_store rfl rfl rfl ⟨rfl, Nat.le_of_ble_eq_true rfl⟩ rfl ?_
  refine po_nil ?_
  refine mw_seq (mw_ops ?_)
  refine po_q rfl rfl ?_
  refine po_store rfl rfl rfl ⟨rfl, Nat.le_of_ble_eq_true rfl⟩ rfl ?_
  refine po_nil ?_
  refine mw_ret ⟨.inr rfl, _, rfl, congrArg (fun l => some (PV.ag l)) (shO_row (x := x) hrk hr), ?_, ?_, ?_⟩
  · show (toksL (shO x (.sl tk rk) (.sl tr rows))).Nodup
    rw [shO_toks]; exact hO.nd
  · intro t ht
    have : t ∈ toksL (shO x (.sl tk rk) (.sl tr rows)) := ht
    rw [shO_toks] at this; exact (hO.mem t this).1
  · show ownedL (shO x (.sl tk rk) (.sl tr rows)) = true
    rw [shO_owned]; exact hO.own
theorem own_fn : ∀ (n : Nat) (x : Sh), x.nodes ≤ n → x.bulk ≤ 4294967280 → FnO (env T hT) 47 [.ag (shC x)] (.ag (shC x))
  | 0, x, hn, _ => by obtain ⟨k, l, h, ks, m, kids⟩ := x; simp [Sh.nodes] at hn
  | n + 1, x, hn, hb => by
    obtain ⟨k, l, h, ks, m, kids⟩ := x
    have hb' := hb
    simp only [Sh.bulk] at hb'
    refine own_step (own_fn n) _ (by show ks.length ≤ _; omega) (by show kids.length ≤ _; omega) fun j hj => ?_
    have hj' : j < kids.length := hj
    have h1 := Sh.nodes_get kids j hj'
    simp only [Sh.nodes] at hn
    exact ⟨by show kids[j].nodes ≤ n; omega, Sh.bulk_get (by omega) j hj'⟩
end Go.Proofs.YtpknmldpdoadgaaDoor

/- impl.joinedMaps$1 (the closure add) on values without memory. -/
namespace Go.Proofs.YtpknmldpdoadgaaDoor
open Go.RowKit
variable {T : World → Prop} {hT : Low ngl T}

theorem get_last {α : Type} (l : List α) (x : α) : (l ++ [x])[l.length]? = some x := by rw [List.getElem?_append_right (Nat.le_refl _), Nat.sub_self]; rfl
theorem get_last2 {α : Type} (l : List α) (x y : α) : (l ++ [x] ++ [y])[l.length]? = some x := by rw [List.getElem?_append_left (by simp)]; exact get_last l x
theorem set_last2 {α : Type} (l : List α) (x y z : α) : (l ++ [x] ++ [y]).set l.length z = l ++ [z] ++ [y] := by
  rw [List.set_append_left _ _ (by simp), List.set_append_right _ _ (Nat.le_refl _), Nat.sub_self]; rfl
theorem shk_arg (x : Sh) (key : List UInt8) : PV.dats [.ag (shC x), .d (pS key)] = some [.ag (shC x), .d (pS key)] := congrArg (fun l => some [PV.ag l, PV.d (pS key)]) (shC_er x)

/-- the names of two rows that may be appended to -/
def Nm (nt : Nat) (live : List Nat) (t s : Nat) : Prop := (t = 1 ∨ 2 ≤ t ∧ t ∈ live ∧ t < nt) ∧ (s = 1 ∨ 2 ≤ s ∧ s ∈ live ∧ s < nt) ∧ (t = s → t = 1) ∧ 2 ≤ nt
theorem Nm.mono {nt nt' t s : Nat} {live live' : List Nat} (h : Nm nt live t s) (hn : nt ≤ nt') (hl : ∀ x ∈ live, x ∈ live') : Nm nt' live' t s :=
  ⟨h.1.imp id fun h => ⟨h.1, hl _ h.2.1, by omega⟩, h.2.1.imp id fun h => ⟨h.1, hl _ h.2.1, by omega⟩, h.2.2.1, by have := h.2.2.2; omega⟩
theorem Nm.app {nt t s : Nat} {live : List Nat} (h : Nm nt live t s) : t = 1 ∨ t ∈ live := h.1.imp id fun h => h.2.1
theorem Nm.app2 {nt t s : Nat} {live : List Nat} (h : Nm nt live t s) : s = 1 ∨ s ∈ nt :: live.filter (· != t) := by
  rcases h.2.1 with h1 | ⟨h1, h2, h3⟩
  · exact .inl h1
  · refine .inr (List.mem_cons_of_mem _ (List.mem_filter.2 ⟨h2, ?_⟩))
    have : s ≠ t := fun e => by have := h.2.2.1 e.symm; omega
    simpa using this
theorem Nm.two {nt t s : Nat} {live : List Nat} (h : Nm nt live t s) : Nm (nt + 1 + 1) ((nt + 1) :: (nt :: live.filter (· != t)).filter (· != s)) nt (nt + 1) := by
  have h2 := h.2.2.2
  have hs : s < nt := by rcases h.2.1 with h | h <;> omega
  refine ⟨.inr ⟨h2, List.mem_cons_of_mem _ (List.mem_filter.2 ⟨List.mem_cons_self, ?_⟩), by omega⟩, .inr ⟨by omega, List.mem_cons_self, by omega⟩, fun e => by omega, by omega⟩
  have : nt ≠ s := by omega
  simpa using this

/-- what the program's Join gives -/
def JnQ (T : World → Prop) (hT : Low ngl T) (N : Nat) : Prop := ∀ a b : Sh, a.nodes ≤ N → a.wf → b.wf → a.bulk ≤ 10200 → b.bulk ≤ 10200 → FnO (env T hT) 8 [.ag (shC a), .ag (shC b)] (.ag (shC (joinS N a b)))

def AdI (a b : Sh) (ks : List (List UInt8)) (m : Int) (f : List UInt8 → Sh) (nt : Nat) (live : List Nat) (bx : List (List PC)) : Prop := ∃ (tk tr : Nat) (rows rest : List (List PC)), bx = shC a :: shC b :: zSh :: oC (.sl tk (pSr ks)) m (.sl tr rows) :: rest ∧ erLL rows = shK (ks.map f) ∧ Nm nt live tk tr

set_option maxHeartbeats 1000000 in
theorem add_fn {N : Nat} (hJ : JnQ T hT N) (a b : Sh) (key : List UInt8) (ks : List (List UInt8)) (m : Int) (tk tr : Nat) (rows rest : List (List PC)) (nt : Nat) (live : List Nat) (hn : a.nodes ≤ N + 1) (hwa : a.wf) (hwb : b.wf) (hba : a.bulk ≤ 10200) (hbb : b.bulk ≤ 10200)
    (hka : a.keys.length ≤ a.kids.length) (hkb : b.keys.length ≤ b.kids.length) (hkey : key ∈ a.keys ∨ key ∈ b.keys) (hks : ks.length ≤ 1000) (hr : erLL rows = shK (ks.map (jKid (joinS N) a b))) (hN : Nm nt live tk tr) :
    FnG (env T hT) 71 [.d (pS key), .ref 0 0, .ref 1 0, .ref 3 0] (shC a :: shC b :: zSh :: oC (.sl tk (pSr ks)) m (.sl tr rows) :: rest) nt live (fun _ bx' nt' live' => AdI a b (ks ++ [key]) m (jKid (joinS N) a b) nt' live' bx') := by
  have hla := (Sh.lens hba).1
  have hlb := (Sh.lens hbb).1
  have hfa := field_fn (T := T) (hT := hT) a key (by omega) hka
  have hfb := field_fn (T := T) (hT := hT) b key (by omega) hkb
  generalize hja : decide (0 ≤ ixF a.keys key 0) = ja at hfa
  generalize hjb : decide (0 ≤ ixF b.keys key 0) = jb at hfb
  generalize hma : (ja && decide (ixF a.keys key 0 < a.must)) = ma at hfa
  generalize hmb : (jb && decide (ixF b.keys key 0 < b.must)) = mb at hfb
  refine fng_of (look_env lk_i_joinedMaps_1) (by show 4 ≤ 48; decide) fun B hB => ?_
  unfold m_i_joinedMaps_1
  refine mw_seq (mw_ops ?_)
  iterate 2 (refine po_q rfl rfl ?_)
  refine po_call (shk_arg a key) hfa ?_
  iterate 4 (refine po_q rfl rfl ?_)
  refine po_new (cs := shC (fldV a key)) rfl rfl rfl rfl ?_
  iterate 2 (refine po_q rfl rfl ?_)
  refine po_nil ?_
  refine mw_seq (mw_ops ?_)
  iterate 2 (refine po_q rfl rfl ?_)
  refine po_call (shk_arg b key) hfb ?_
  iterate 4 (refine po_q rfl rfl ?_)
  refine po_new (cs := shC (fldV b key)) rfl rfl rfl rfl ?_
  iterate 2 (refine po_q rfl rfl ?_)
  refine po_nil ?_
  generalize hB0 : (shC a :: shC b :: zSh :: oC (.sl tk (pSr ks)) m (.sl tr rows) :: rest : List (List PC)) = B0
  refine mw_cut (fun s => has s.tm [(0, .d (pS key)), (3, .ref 3 0), (5, .ref B0.length 0)] ∧ ∃ c0 c1 c2 c3 c4 c5, s.bx = B0 ++ [[c0, c1, c2, c3, c4, c5]] ++ [shC (fldV b key)] ∧ erL [c0, c1, c2, c3, c4, c5] = shC (jKid (joinS N) a b key) ∧ Nm s.nt s.live tk tr) ?_ ?_
  · refine mw_block (mw_seq (mw_ops ?_))
    cases ja
    · have h1 : ¬ 0 ≤ ixF a.keys key 0 := of_decide_eq_false hja
      have h2 : 0 ≤ ixF b.keys key 0 := by
        rcases hkey with h | h
        · exact absurd ((ixF_mem _ _ 0).2 h) h1
        · exact (ixF_mem _ _ 0).2 h
      have hjb' : jb = true := by rw [← hjb]; exact decide_eq_true h2
      subst hjb'
      repeat' (first | refine po_skip rfl ?_ | refine po_q rfl rfl ?_)
      refine po_nil ?_
      refine mw_cond (t := false) rfl (fun h => absurd h (by decide)) (fun _ => ?_)
      refine mw_seq (mw_ops ?_)
      iterate 2 (refine po_q rfl rfl ?_)
      refine po_nil ?_
      refine mw_cond (t := true) rfl (fun _ => ?_) (fun h => absurd h (by decide))
      refine mw_ops ?_
      refine po_ld (cs := shC (fldV b key)) (v := .ag (shC (fldV b key))) rfl rfl (get_last _ _) (Nat.le_refl 6) rfl ?_
      refine po_store (cs := shC (fldV b key)) rfl rfl (get_last2 _ _ _) ⟨rfl, Nat.le_of_ble_eq_true rfl⟩ rfl ?_
      refine po_nil ?_
      refine ⟨⟨rfl, rfl, rfl, trivial⟩, _, _, _, _, _, _, set_last2 _ _ _ _, ?_, hN⟩
      have : jKid (joinS N) a b key = fldV b key := by unfold jKid fldV; rw [if_neg h1, if_pos h2]
      rw [this]; exact shC_er _
    · have h1 : 0 ≤ ixF a.keys key 0 := of_decide_eq_true hja
      obtain ⟨i, hi, hil⟩ := ix_at h1 hka
      have hfva : fldV a key = a.kids[i] := by unfold fldV; rw [if_pos h1, kidAt_eq hi hil]
      cases jb
      · have h2 : ¬ 0 ≤ ixF b.keys key 0 := of_decide_eq_false hjb
        repeat' (first | refine po_skip rfl ?_ | refine po_q rfl rfl ?_)
        refine po_nil ?_
        refine mw_cond (t := false) rfl (fun h => absurd h (by decide)) (fun _ => ?_)
        refine mw_seq (mw_ops ?_)
        iterate 2 (refine po_q rfl rfl ?_)
        refine po_nil ?_
        refine mw_cond (t := false) rfl (fun h => absurd h (by decide)) (fun _ => ?_)
        refine mw_skip ?_
        refine ⟨⟨rfl, rfl, rfl, trivial⟩, _, _, _, _, _, _, rfl, ?_, hN⟩
        have : jKid (joinS N) a b key = fldV a key := by unfold jKid fldV; rw [if_pos h1, if_neg h2, if_pos h1]
        rw [this]; exact shC_er _
      · have h2 : 0 ≤ ixF b.keys key 0 := of_decide_eq_true hjb
        obtain ⟨k, hk, hkl⟩ := ix_at h2 hkb
        have hfvb : fldV b key = b.kids[k] := by unfold fldV; rw [if_pos h2, kidAt_eq hk hkl]
        repeat' (first | refine po_skip rfl ?_ | refine po_q rfl rfl ?_)
        refine po_nil ?_
        refine mw_cond (t := true) rfl (fun _ => ?_) (fun h => absurd h (by decide))
        refine mw_ops ?_
        refine po_ld (cs := shC (fldV a key)) (v := .ag (shC (fldV a key))) rfl rfl (get_last2 _ _ _) (Nat.le_refl 6) rfl ?_
        refine po_ld (cs := shC (fldV b key)) (v := .ag (shC (fldV b key))) rfl rfl (get_last _ _) (Nat.le_refl 6) rfl ?_
        refine po_sh (shC_arg2 (fldV a key) (fldV b key)) (hJ _ _ (by rw [hfva]; exact Sh.nodes_kid hn i hil) (by rw [hfva]; exact Sh.wfs_get (Sh.wf_kids hwa) i hil) (by rw [hfvb]; exact Sh.wfs_get (Sh.wf_kids hwb) k hkl) (by rw [hfva]; exact Nat.le_trans (Sh.bulk_kid i hil) hba) (by rw [hfvb]; exact Nat.le_trans (Sh.bulk_kid k hkl) hbb)) ?_
        intro c0 c1 c2 c3 c4 c5 nt' hx hnt hM
        refine po_store rfl rfl (get_last2 _ _ _) ⟨rfl, Nat.le_of_ble_eq_true rfl⟩ rfl ?_
        refine po_nil ?_
        refine ⟨⟨rfl, rfl, rfl, trivial⟩, c0, c1, c2, c3, c4, c5, set_last2 _ _ _ _, ?_, hN.mono (by show nt ≤ nt'; omega) (fun x hx => List.mem_append.2 (.inr hx))⟩
        have : jKid (joinS N) a b key = joinS N (fldV a key) (fldV b key) := by unfold jKid fldV; rw [if_pos h1, if_pos h2, if_pos h1, if_pos h2]
        rw [this]; exact hx
  rintro tm bx nt live ⟨ht, c0, c1, c2, c3, c4, c5, hbx, hx, hN⟩
  obtain ⟨tm0, rfl⟩ := has_ups ht
  simp only at hbx hN; subst hbx
  subst hB0
  refine mw_ops ?_
  iterate 6 (refine po_q rfl rfl ?_)
  refine po_ld (cs := [c0, c1, c2, c3, c4, c5]) (v := .ag [c0, c1, c2, c3, c4, c5]) rfl rfl (get_last2 _ _ _) (Nat.le_refl 6) rfl ?_
  refine po_q rfl rfl ?_
  refine po_app (t := tk) (es := pSr ks) (ds := [[pS key]]) rfl rfl hN.app (by rw [pSr_len]; simp; omega) (by simp) (pSr_wid _) ?_
  refine po_q rfl rfl ?_
  have hrl := erLL_len hr
  rw [shK_len, List.length_map] at hrl
  refine po_app (t := tr) (es := rows) (ds := [[c0, c1, c2, c3, c4, c5]]) rfl rfl hN.app2 (by rw [List.length_singleton]; omega) (by simp) (erLL_wid hr (shK_wid _)) ?_
  refine po_store rfl rfl rfl ⟨rfl, Nat.le_of_ble_eq_true rfl⟩ rfl ?_
  refine po_q rfl rfl ?_
  refine po_store rfl rfl rfl ⟨rfl, Nat.le_of_ble_eq_true rfl⟩ rfl ?_
  refine po_nil ?_
  refine ⟨.inl rfl, [], rfl, nt, nt + 1, rows ++ [[c0, c1, c2, c3, c4, c5]], rest ++ [[c0, c1, c2, c3, c4, c5]] ++ [shC (fldV b key)], ?_, ?_, hN.two⟩
  · rw [pSr_append]; rfl
  · rw [erLL_append, hr, List.map_append, shK_eq, shK_eq, List.map_append]
    show _ ++ [erL [c0, c1, c2, c3, c4, c5]] = _ ++ [shC (jKid (joinS N) a b key)]
    rw [hx]
end Go.Proofs.YtpknmldpdoadgaaDoor

/- Bodies of functions in the small language. Written by a program. -/
namespace Go.Proofs.YtpknmldpdoadgaaDoor
set_option maxRecDepth 100000
def m_s_ShapeOf : M := .seq (.ops [⟨some 1, .box (.t 0), none, []⟩,
  ⟨some 2, .zero [.int .i64 0, .int .i64 0, .int .i64 0, .slice none 0 0, .int .i64 0, .slice none 0 0], none, []⟩])
 (.seq (.seq (.ops [⟨some 4, .load true 5 (.t 1), none, []⟩,
  ⟨some 5, .call 34 [.t 4], none, [.f 1]⟩,
  ⟨some 6, .not (.t 5), none, []⟩])
 (.cond (.t 6) (.seq (.ops [⟨some 7, .build [.int .i64 0, .int .i64 0, .int .i64 0, .slice none 0 0, .int .i64 0, .slice none 0 0] [], none, []⟩,
  ⟨none, .store 6 (.t 2) (.t 7), none, []⟩])
 (.ret))
 (.skip)))
 (.seq (.ops [⟨some 8, .load true 5 (.t 1), none, []⟩,
  ⟨some 9, .call 35 [.t 8], none, [.f 1]⟩,
  ⟨some 3, .zero [.int .i64 0, .int .i64 0, .int .i64 0, .slice none 0 0, .int .i64 0, .slice none 0 0], none, []⟩,
  ⟨none, .store 6 (.t 3) (.t 9), none, []⟩])
 (.seq (.seq (.ops [⟨some 10, .load true 6 (.t 3), none, []⟩,
  ⟨some 11, .call 20 [.t 10], none, [.f 1]⟩,
  ⟨some 12, .not (.t 11), none, []⟩])
 (.cond (.t 12) (.seq (.ops [⟨some 13, .build [.int .i64 0, .int .i64 0, .int .i64 0, .slice none 0 0, .int .i64 0, .slice none 0 0] [], none, []⟩,
  ⟨none, .store 6 (.t 2) (.t 13), none, []⟩])
 (.ret))
 (.skip)))
 (.seq (.ops [⟨some 14, .load true 6 (.t 3), none, []⟩,
  ⟨none, .store 6 (.t 2) (.t 14), none, []⟩])
 (.ret)))))
theorem lk_s_ShapeOf : look Tryd.prog 13 = some (15, m_s_ShapeOf, [.cell true 6 2]) := by kernel_rfl
def m_i_ShapeOf : M := .seq (.ops [⟨some 1, .box (.t 0), none, []⟩,
  ⟨some 2, .zero [.int .i64 0, .int .i64 0, .int .i64 0, .slice none 0 0, .int .i64 0, .slice none 0 0], none, []⟩])
 (.seq (.seq (.ops [⟨some 3, .load true 5 (.t 1), none, []⟩,
  ⟨some 4, .call 37 [.t 3], none, [.f 1]⟩,
  ⟨some 5, .not (.t 4), none, []⟩])
 (.cond (.t 5) (.seq (.ops [⟨some 6, .build [.int .i64 0, .int .i64 0, .int .i64 0, .slice none 0 0, .int .i64 0, .slice none 0 0] [], none, []⟩,
  ⟨none, .store 6 (.t 2) (.t 6), none, []⟩])
 (.ret))
 (.skip)))
 (.seq (.ops [⟨some 7, .load true 5 (.t 1), none, []⟩,
  ⟨some 8, .call 38 [.t 7], none, [.f 1]⟩,
  ⟨none, .store 6 (.t 2) (.t 8), none, []⟩])
 (.ret)))
theorem lk_i_ShapeOf : look Tryd.prog 15 = some (9, m_i_ShapeOf, [.cell true 6 2]) := by kernel_rfl
def m_s_l15Of : M := .seq (.ops [⟨some 1, .box (.t 0), none, []⟩,
  ⟨some 2, .zero [.int .i64 0, .int .i64 0, .int .i64 0, .slice none 0 0, .int .i64 0, .slice none 0 0], none, []⟩])
 (.seq (.seq (.ops [⟨some 9, .fld 0 (.t 1), none, []⟩,
  ⟨some 10, .load false 1 (.t 9), none, []⟩])
 (.block 0 (.seq (.ops [⟨some 12, .bin .eql false (.t 10) (.c (.int .i64 0)), none, []⟩,
  ⟨some 11, .mv (.t 12), none, []⟩])
 (.cond (.t 11) (.seq (.ops [⟨some 13, .build [.int .i64 0, .int .i64 0, .int .i64 0, .slice none 0 0, .int .i64 0, .slice none 0 0] [(0, 1, .c (.int .i64 1))], none, []⟩,
  ⟨none, .store 6 (.t 2) (.t 13), none, []⟩])
 (.ret))
 (.seq (.seq (.ops [⟨some 15, .bin .eql false (.t 10) (.c (.int .i64 1)), none, []⟩,
  ⟨some 14, .mv (.t 15), none, []⟩])
 (.cond (.t 14) (.skip)
 (.ops [⟨some 16, .bin .eql false (.t 10) (.c (.int .i64 2)), none, []⟩,
  ⟨some 14, .mv (.t 16), none, []⟩])))
 (.cond (.t 14) (.seq (.ops [⟨some 17, .build [.int .i64 0, .int .i64 0, .int .i64 0, .slice none 0 0, .int .i64 0, .slice none 0 0] [(0, 1, .c (.int .i64 2))], none, []⟩,
  ⟨none, .store 6 (.t 2) (.t 17), none, []⟩])
 (.ret))
 (.seq (.ops [⟨some 19, .bin .eql false (.t 10) (.c (.int .i64 3)), none, []⟩,
  ⟨some 18, .mv (.t 19), none, []⟩])
 (.cond (.t 18) (.seq (.ops [⟨some 20, .fld 1 (.t 1), none, []⟩,
  ⟨some 21, .load false 1 (.t 20), none, []⟩,
  ⟨some 22, .call 55 [.c (.int .i64 3), .t 21], none, [.f 1]⟩,
  ⟨none, .store 6 (.t 2) (.t 22), none, []⟩])
 (.ret))
 (.seq (.ops [⟨some 24, .bin .eql false (.t 10) (.c (.int .i64 4)), none, []⟩,
  ⟨some 23, .mv (.t 24), none, []⟩])
 (.cond (.t 23) (.seq (.ops [⟨some 25, .build [.int .i64 0, .int .i64 0, .int .i64 0, .slice none 0 0, .int .i64 0, .slice none 0 0] [(0, 1, .c (.int .i64 4))], none, []⟩,
  ⟨none, .store 6 (.t 2) (.t 25), none, []⟩])
 (.ret))
 (.seq (.ops [⟨some 27, .bin .eql false (.t 10) (.c (.int .i64 5)), none, []⟩,
  ⟨some 26, .mv (.t 27), none, []⟩])
 (.cond (.t 26) (.seq (.ops [⟨some 28, .fld 3 (.t 1), none, []⟩,
  ⟨some 29, .load false 1 (.t 28), none, []⟩,
  ⟨some 30, .lens (.t 29), none, []⟩,
  ⟨some 31, .call 55 [.c (.int .i64 5), .t 30], none, [.f 1]⟩,
  ⟨none, .store 6 (.t 2) (.t 31), none, []⟩])
 (.ret))
 (.seq (.ops [⟨some 33, .bin .eql false (.t 10) (.c (.int .i64 6)), none, []⟩,
  ⟨some 32, .mv (.t 33), none, []⟩])
 (.cond (.t 32) (.seq (.ops [⟨some 34, .fld 3 (.t 1), none, []⟩,
  ⟨some 35, .load false 1 (.t 34), none, []⟩,
  ⟨some 36, .lens (.t 35), none, []⟩,
  ⟨some 37, .call 55 [.c (.int .i64 6), .t 36], none, [.f 1]⟩,
  ⟨none, .store 6 (.t 2) (.t 37), none, []⟩])
 (.ret))
 (.seq (.ops [⟨some 39, .bin .eql false (.t 10) (.c (.int .i64 7)), none, []⟩,
  ⟨some 38, .mv (.t 39), none, []⟩])
 (.cond (.t 38) (.seq (.ops [⟨some 40, .fld 4 (.t 1), none, []⟩,
  ⟨some 41, .load false 1 (.t 40), none, []⟩,
  ⟨some 42, .len (.t 41), none, []⟩,
  ⟨some 43, .call 55 [.c (.int .i64 7), .t 42], none, [.f 1]⟩,
  ⟨some 3, .zero [.int .i64 0, .int .i64 0, .int .i64 0, .slice none 0 0, .int .i64 0, .slice none 0 0], none, []⟩,
  ⟨none, .store 6 (.t 3) (.t 43), none, []⟩])
 (.seq (.ops [⟨some 44, .build [.int .i64 0, .int .i64 0, .int .i64 0, .slice none 0 0, .int .i64 0, .slice none 0 0] [], none, []⟩,
  ⟨some 4, .zero [.int .i64 0, .int .i64 0, .int .i64 0, .slice none 0 0, .int .i64 0, .slice none 0 0], none, []⟩,
  ⟨none, .store 6 (.t 4) (.t 44), none, []⟩])
 (.seq (.seq (.ops [⟨some 5, .mv (.c (.int .i64 0)), none, []⟩])
 (.block 1 (.loop (.seq (.seq (.ops [⟨some 45, .mv (.t 5), none, []⟩,
  ⟨some 46, .fld 4 (.t 1), none, []⟩,
  ⟨some 47, .load false 1 (.t 46), none, []⟩,
  ⟨some 48, .len (.t 47), none, []⟩,
  ⟨some 49, .bin .lss false (.t 45) (.t 48), none, []⟩])
 (.cond (.t 49) (.skip)
 (.exit 1)))
 (.seq (.block 2 (.seq (.ops [⟨some 52, .fld 4 (.t 1), none, []⟩,
  ⟨some 53, .load false 1 (.t 52), none, []⟩,
  ⟨some 54, .mv (.t 5), none, []⟩,
  ⟨some 55, .ix 5 (.t 53) (.t 54), none, []⟩,
  ⟨some 56, .load true 5 (.t 55), none, []⟩,
  ⟨some 57, .call 13 [.t 56], none, [.f 1]⟩,
  ⟨some 6, .zero [.int .i64 0, .int .i64 0, .int .i64 0, .slice none 0 0, .int .i64 0, .slice none 0 0], none, []⟩,
  ⟨none, .store 6 (.t 6) (.t 57), none, []⟩])
 (.seq (.ops [⟨some 58, .mv (.t 5), none, []⟩,
  ⟨some 59, .bin .eql false (.t 58) (.c (.int .i64 0)), none, []⟩])
 (.cond (.t 59) (.ops [⟨some 60, .load true 6 (.t 6), none, []⟩,
  ⟨none, .store 6 (.t 4) (.t 60), none, []⟩])
 (.ops [⟨some 61, .load true 6 (.t 4), none, []⟩,
  ⟨some 62, .load true 6 (.t 6), none, []⟩,
  ⟨some 63, .call 6 [.t 61, .t 62], none, [.f 1]⟩,
  ⟨none, .store 6 (.t 4) (.t 63), none, []⟩])))))
 (.ops [⟨some 50, .mv (.t 5), none, []⟩,
  ⟨some 51, .bin .add false (.t 50) (.c (.int .i64 1)), none, []⟩,
  ⟨some 5, .mv (.t 51), none, []⟩]))))))
 (.seq (.ops [⟨some 64, .load true 6 (.t 4), none, []⟩,
  ⟨some 65, .lit 6 [.t 64], none, []⟩,
  ⟨some 66, .fld 5 (.t 3), none, []⟩,
  ⟨none, .store 1 (.t 66) (.t 65), none, []⟩])
 (.seq (.ops [⟨some 67, .load true 6 (.t 3), none, []⟩,
  ⟨none, .store 6 (.t 2) (.t 67), none, []⟩])
 (.ret))))))
 (.seq (.ops [⟨some 69, .bin .eql false (.t 10) (.c (.int .i64 8)), none, []⟩,
  ⟨some 68, .mv (.t 69), none, []⟩])
 (.cond (.t 68) (.seq (.ops [⟨some 70, .build [.int .i64 0, .int .i64 0, .int .i64 0, .slice none 0 0, .int .i64 0, .slice none 0 0] [(0, 1, .c (.int .i64 8))], none, []⟩,
  ⟨some 7, .zero [.int .i64 0, .int .i64 0, .int .i64 0, .slice none 0 0, .int .i64 0, .slice none 0 0], none, []⟩,
  ⟨none, .store 6 (.t 7) (.t 70), none, []⟩])
 (.seq (.seq (.ops [⟨some 8, .mv (.c (.int .i64 0)), none, []⟩])
 (.block 3 (.loop (.seq (.seq (.ops [⟨some 71, .mv (.t 8), none, []⟩,
  ⟨some 72, .fld 4 (.t 1), none, []⟩,
  ⟨some 73, .load false 1 (.t 72), none, []⟩,
  ⟨some 74, .len (.t 73), none, []⟩,
  ⟨some 75, .bin .lss false (.t 71) (.t 74), none, []⟩,
  ⟨some 76, .mv (.t 75), none, []⟩,
  ⟨some 77, .load true 5 (.t 1), some (76, true), []⟩,
  ⟨some 78, .call 56 [.t 77], some (76, true), [.f 1]⟩,
  ⟨some 79, .pick (.t 76) (.t 78) (.c (.bool false)), none, []⟩])
 (.cond (.t 79) (.skip)
 (.exit 3)))
 (.seq (.block 4 (.seq (.ops [⟨some 82, .fld 3 (.t 7), none, []⟩,
  ⟨some 83, .load false 1 (.t 82), none, []⟩,
  ⟨some 84, .fld 4 (.t 1), none, []⟩,
  ⟨some 85, .load false 1 (.t 84), none, []⟩,
  ⟨some 86, .mv (.t 8), none, []⟩,
  ⟨some 87, .ix 5 (.t 85) (.t 86), none, []⟩,
  ⟨some 88, .fld 3 (.t 87), none, []⟩,
  ⟨some 89, .load false 1 (.t 88), none, []⟩,
  ⟨some 90, .litq 1 [.t 89], none, []⟩,
  ⟨some 91, .app 1 (.t 83) (.t 90), none, []⟩,
  ⟨some 92, .fld 3 (.t 7), none, []⟩,
  ⟨none, .store 1 (.t 92) (.t 91), none, []⟩])
 (.ops [⟨some 93, .fld 5 (.t 7), none, []⟩,
  ⟨some 94, .load false 1 (.t 93), none, []⟩,
  ⟨some 95, .fld 4 (.t 1), none, []⟩,
  ⟨some 96, .load false 1 (.t 95), none, []⟩,
  ⟨some 97, .mv (.t 8), none, []⟩,
  ⟨some 98, .bin .add false (.t 97) (.c (.int .i64 1)), none, []⟩,
  ⟨some 99, .ix 5 (.t 96) (.t 98), none, []⟩,
  ⟨some 100, .load true 5 (.t 99), none, []⟩,
  ⟨some 101, .call 13 [.t 100], none, []⟩,
  ⟨some 102, .litq 6 [.t 101], none, []⟩,
  ⟨some 103, .app 6 (.t 94) (.t 102), none, []⟩,
  ⟨some 104, .fld 5 (.t 7), none, []⟩,
  ⟨none, .store 1 (.t 104) (.t 103), none, []⟩])))
 (.ops [⟨some 80, .mv (.t 8), none, []⟩,
  ⟨some 81, .bin .add false (.t 80) (.c (.int .i64 2)), none, []⟩,
  ⟨some 8, .mv (.t 81), none, []⟩]))))))
 (.seq (.ops [⟨some 105, .fld 3 (.t 7), none, []⟩,
  ⟨some 106, .load false 1 (.t 105), none, []⟩,
  ⟨some 107, .len (.t 106), none, []⟩,
  ⟨some 108, .fld 4 (.t 7), none, []⟩,
  ⟨none, .store 1 (.t 108) (.t 107), none, []⟩])
 (.seq (.ops [⟨some 109, .load true 5 (.t 1), none, []⟩,
  ⟨some 110, .call 56 [.t 109], none, [.f 1]⟩])
 (.cond (.t 110) (.seq (.ops [⟨some 111, .load true 6 (.t 7), none, []⟩,
  ⟨none, .store 6 (.t 2) (.t 111), none, []⟩])
 (.ret))
 (.skip))))))
 (.skip)))))))))))))))))))
 (.seq (.ops [⟨some 112, .build [.int .i64 0, .int .i64 0, .int .i64 0, .slice none 0 0, .int .i64 0, .slice none 0 0] [], none, []⟩,
  ⟨none, .store 6 (.t 2) (.t 112), none, []⟩])
 (.ret)))
theorem lk_s_l15Of : look Tryd.prog 35 = some (113, m_s_l15Of, [.cell true 6 2]) := by kernel_rfl
def m_i_shapeOf : M := .seq (.ops [⟨some 1, .box (.t 0), none, []⟩,
  ⟨some 2, .zero [.int .i64 0, .int .i64 0, .int .i64 0, .slice none 0 0, .int .i64 0, .slice none 0 0], none, []⟩])
 (.seq (.ops [⟨some 12, .build [.int .i64 0, .int .i64 0, .int .i64 0, .slice none 0 0, .int .i64 0, .slice none 0 0] [], none, []⟩,
  ⟨some 3, .zero [.int .i64 0, .int .i64 0, .int .i64 0, .slice none 0 0, .int .i64 0, .slice none 0 0], none, []⟩,
  ⟨none, .store 6 (.t 3) (.t 12), none, []⟩])
 (.seq (.seq (.ops [⟨some 13, .fld 0 (.t 1), none, []⟩,
  ⟨some 14, .load false 1 (.t 13), none, []⟩])
 (.block 0 (.seq (.ops [⟨some 16, .bin .eql false (.t 14) (.c (.int .i64 0)), none, []⟩,
  ⟨some 15, .mv (.t 16), none, []⟩])
 (.cond (.t 15) (.ops [⟨some 17, .fld 0 (.t 3), none, []⟩,
  ⟨none, .store 1 (.t 17) (.c (.int .i64 1)), none, []⟩])
 (.seq (.seq (.ops [⟨some 19, .bin .eql false (.t 14) (.c (.int .i64 1)), none, []⟩,
  ⟨some 18, .mv (.t 19), none, []⟩])
 (.cond (.t 18) (.skip)
 (.ops [⟨some 20, .bin .eql false (.t 14) (.c (.int .i64 2)), none, []⟩,
  ⟨some 18, .mv (.t 20), none, []⟩])))
 (.cond (.t 18) (.ops [⟨some 21, .fld 0 (.t 3), none, []⟩,
  ⟨none, .store 1 (.t 21) (.c (.int .i64 2)), none, []⟩])
 (.seq (.ops [⟨some 23, .bin .eql false (.t 14) (.c (.int .i64 3)), none, []⟩,
  ⟨some 22, .mv (.t 23), none, []⟩])
 (.cond (.t 22) (.ops [⟨some 24, .fld 1 (.t 1), none, []⟩,
  ⟨some 25, .load false 1 (.t 24), none, []⟩,
  ⟨some 26, .call 58 [.c (.int .i64 3), .t 25], none, [.f 1]⟩,
  ⟨none, .store 6 (.t 3) (.t 26), none, []⟩])
 (.seq (.ops [⟨some 28, .bin .eql false (.t 14) (.c (.int .i64 4)), none, []⟩,
  ⟨some 27, .mv (.t 28), none, []⟩])
 (.cond (.t 27) (.ops [⟨some 29, .fld 0 (.t 3), none, []⟩,
  ⟨none, .store 1 (.t 29) (.c (.int .i64 4)), none, []⟩])
 (.seq (.ops [⟨some 31, .bin .eql false (.t 14) (.c (.int .i64 5)), none, []⟩,
  ⟨some 30, .mv (.t 31), none, []⟩])
 (.cond (.t 30) (.ops [⟨some 32, .fld 3 (.t 1), none, []⟩,
  ⟨some 33, .load false 1 (.t 32), none, []⟩,
  ⟨some 34, .lens (.t 33), none, []⟩,
  ⟨some 35, .call 58 [.c (.int .i64 5), .t 34], none, [.f 1]⟩,
  ⟨none, .store 6 (.t 3) (.t 35), none, []⟩])
 (.seq (.ops [⟨some 37, .bin .eql false (.t 14) (.c (.int .i64 6)), none, []⟩,
  ⟨some 36, .mv (.t 37), none, []⟩])
 (.cond (.t 36) (.ops [⟨some 38, .fld 3 (.t 1), none, []⟩,
  ⟨some 39, .load false 1 (.t 38), none, []⟩,
  ⟨some 40, .lens (.t 39), none, []⟩,
  ⟨some 41, .call 58 [.c (.int .i64 6), .t 40], none, [.f 1]⟩,
  ⟨none, .store 6 (.t 3) (.t 41), none, []⟩])
 (.seq (.ops [⟨some 43, .bin .eql false (.t 14) (.c (.int .i64 7)), none, []⟩,
  ⟨some 42, .mv (.t 43), none, []⟩])
 (.cond (.t 42) (.seq (.ops [⟨some 44, .fld 4 (.t 1), none, []⟩,
  ⟨some 45, .load false 1 (.t 44), none, []⟩,
  ⟨some 46, .len (.t 45), none, []⟩,
  ⟨some 47, .call 58 [.c (.int .i64 7), .t 46], none, [.f 1]⟩,
  ⟨none, .store 6 (.t 3) (.t 47), none, []⟩])
 (.seq (.ops [⟨some 48, .build [.int .i64 0, .int .i64 0, .int .i64 0, .slice none 0 0, .int .i64 0, .slice none 0 0] [], none, []⟩,
  ⟨some 4, .zero [.int .i64 0, .int .i64 0, .int .i64 0, .slice none 0 0, .int .i64 0, .slice none 0 0], none, []⟩,
  ⟨none, .store 6 (.t 4) (.t 48), none, []⟩])
 (.seq (.seq (.ops [⟨some 49, .fld 4 (.t 1), none, []⟩,
  ⟨some 50, .load false 1 (.t 49), none, []⟩,
  ⟨some 51, .len (.t 50), none, []⟩,
  ⟨some 52, .mv (.c (.int .i64 0)), none, []⟩])
 (.block 1 (.loop (.seq (.ops [⟨some 53, .bin .lss false (.t 52) (.t 51), none, []⟩])
 (.seq (.cond (.t 53) (.skip)
 (.exit 1))
 (.seq (.block 2 (.seq (.ops [⟨some 54, .mv (.t 52), none, []⟩,
  ⟨some 55, .ix 5 (.t 50) (.t 52), none, []⟩,
  ⟨some 56, .load true 5 (.t 55), none, []⟩,
  ⟨some 6, .zero [.int .i64 0, .int .i64 0, .int .i64 0, .string ⟨[].toArray⟩, .slice none 0 0], none, []⟩,
  ⟨some 5, .mv (.t 54), none, []⟩,
  ⟨none, .store 5 (.t 6) (.t 56), none, []⟩])
 (.seq (.ops [⟨some 57, .load true 5 (.t 6), none, []⟩,
  ⟨some 58, .call 38 [.t 57], none, [.f 1]⟩,
  ⟨some 7, .zero [.int .i64 0, .int .i64 0, .int .i64 0, .slice none 0 0, .int .i64 0, .slice none 0 0], none, []⟩,
  ⟨none, .store 6 (.t 7) (.t 58), none, []⟩])
 (.seq (.ops [⟨some 59, .mv (.t 5), none, []⟩,
  ⟨some 60, .bin .eql false (.t 59) (.c (.int .i64 0)), none, []⟩])
 (.cond (.t 60) (.ops [⟨some 61, .load true 6 (.t 7), none, []⟩,
  ⟨none, .store 6 (.t 4) (.t 61), none, []⟩])
 (.ops [⟨some 62, .load true 6 (.t 4), none, []⟩,
  ⟨some 63, .load true 6 (.t 7), none, []⟩,
  ⟨some 64, .call 8 [.t 62, .t 63], none, [.f 1]⟩,
  ⟨none, .store 6 (.t 4) (.t 64), none, []⟩]))))))
 (.ops [⟨some 65, .bin .add false (.t 52) (.c (.int .i64 1)), none, []⟩,
  ⟨some 52, .mv (.t 65), none, []⟩])))))))
 (.ops [⟨some 66, .load true 6 (.t 4), none, []⟩,
  ⟨some 67, .lit 6 [.t 66], none, []⟩,
  ⟨some 68, .fld 5 (.t 3), none, []⟩,
  ⟨none, .store 1 (.t 68) (.t 67), none, []⟩]))))
 (.seq (.ops [⟨some 70, .bin .eql false (.t 14) (.c (.int .i64 8)), none, []⟩,
  ⟨some 69, .mv (.t 70), none, []⟩])
 (.cond (.t 69) (.seq (.ops [⟨some 72, .load true 5 (.t 1), none, []⟩,
  ⟨some 73, .call 59 [.t 72], none, [.f 1]⟩,
  ⟨some 71, .mv (.t 73), none, []⟩,
  ⟨some 74, .ext (.t 71) 0, none, []⟩,
  ⟨some 75, .ext (.t 71) 1, none, []⟩,
  ⟨some 8, .mv (.t 74), none, []⟩,
  ⟨some 9, .mv (.t 75), none, []⟩])
 (.seq (.seq (.ops [⟨some 76, .mv (.t 9), none, []⟩,
  ⟨some 77, .not (.t 76), none, []⟩])
 (.cond (.t 77) (.exit 0)
 (.skip)))
 (.seq (.ops [⟨some 78, .mv (.t 8), none, []⟩,
  ⟨some 79, .mv (.t 8), none, []⟩,
  ⟨some 80, .len (.t 79), none, []⟩,
  ⟨some 81, .build [.int .i64 0, .int .i64 0, .int .i64 0, .slice none 0 0, .int .i64 0, .slice none 0 0] [(0, 1, .c (.int .i64 8)), (3, 1, .t 78), (4, 1, .t 80)], none, []⟩,
  ⟨none, .store 6 (.t 3) (.t 81), none, []⟩])
 (.seq (.ops [⟨some 82, .load true 5 (.t 1), none, []⟩,
  ⟨some 83, .call 60 [.t 82], none, [.f 1]⟩,
  ⟨some 84, .len (.t 83), none, []⟩,
  ⟨some 85, .mv (.c (.int .i64 0)), none, []⟩])
 (.block 3 (.loop (.seq (.ops [⟨some 86, .bin .lss false (.t 85) (.t 84), none, []⟩])
 (.seq (.cond (.t 86) (.skip)
 (.exit 3))
 (.seq (.block 4 (.seq (.ops [⟨some 87, .ix 10 (.t 83) (.t 85), none, []⟩,
  ⟨some 88, .load true 10 (.t 87), none, []⟩,
  ⟨some 11, .zero [.int .i64 0, .int .i64 0, .int .i64 0, .string ⟨[].toArray⟩, .slice none 0 0, .int .i64 0, .int .i64 0, .int .i64 0, .string ⟨[].toArray⟩, .slice none 0 0], none, []⟩,
  ⟨none, .store 10 (.t 11) (.t 88), none, []⟩])
 (.ops [⟨some 89, .fld 5 (.t 3), none, []⟩,
  ⟨some 90, .load false 1 (.t 89), none, []⟩,
  ⟨some 91, .fld 5 (.t 11), none, []⟩,
  ⟨some 92, .load true 5 (.t 91), none, []⟩,
  ⟨some 93, .call 38 [.t 92], none, []⟩,
  ⟨some 94, .litq 6 [.t 93], none, []⟩,
  ⟨some 95, .app 6 (.t 90) (.t 94), none, []⟩,
  ⟨some 96, .fld 5 (.t 3), none, []⟩,
  ⟨none, .store 1 (.t 96) (.t 95), none, []⟩])))
 (.ops [⟨some 97, .bin .add false (.t 85) (.c (.int .i64 1)), none, []⟩,
  ⟨some 85, .mv (.t 97), none, []⟩]))))))))))
 (.skip)))))))))))))))))))
 (.seq (.ops [⟨some 98, .load true 6 (.t 3), none, []⟩,
  ⟨some 99, .call 25 [.t 98], none, [.f 1]⟩,
  ⟨none, .store 6 (.t 2) (.t 99), none, []⟩])
 (.ret))))
theorem lk_i_shapeOf : look Tryd.prog 38 = some (100, m_i_shapeOf, [.cell true 6 2]) := by kernel_rfl
def m_s_l15Sized : M := .seq (.ops [⟨some 4, .zero [.int .i64 0, .int .i64 0, .int .i64 0, .slice none 0 0, .int .i64 0, .slice none 0 0], none, []⟩])
 (.seq (.ops [⟨some 5, .mv (.t 0), none, []⟩,
  ⟨some 6, .mv (.t 1), none, []⟩,
  ⟨some 7, .mv (.t 1), none, []⟩,
  ⟨some 8, .build [.int .i64 0, .int .i64 0, .int .i64 0, .slice none 0 0, .int .i64 0, .slice none 0 0] [(0, 1, .t 5), (1, 1, .t 6), (2, 1, .t 7)], none, []⟩,
  ⟨none, .store 6 (.t 4) (.t 8), none, []⟩])
 (.ret))
theorem lk_s_l15Sized : look Tryd.prog 55 = some (9, m_s_l15Sized, [.cell true 6 4]) := by kernel_rfl
def m_i_bounded : M := .seq (.ops [⟨some 4, .zero [.int .i64 0, .int .i64 0, .int .i64 0, .slice none 0 0, .int .i64 0, .slice none 0 0], none, []⟩])
 (.seq (.ops [⟨some 5, .mv (.t 0), none, []⟩,
  ⟨some 6, .mv (.t 1), none, []⟩,
  ⟨some 7, .mv (.t 1), none, []⟩,
  ⟨some 8, .build [.int .i64 0, .int .i64 0, .int .i64 0, .slice none 0 0, .int .i64 0, .slice none 0 0] [(0, 1, .t 5), (1, 1, .t 6), (2, 1, .t 7)], none, []⟩,
  ⟨none, .store 6 (.t 4) (.t 8), none, []⟩])
 (.ret))
theorem lk_i_bounded : look Tryd.prog 58 = some (9, m_i_bounded, [.cell true 6 4]) := by kernel_rfl
def m_i_keysIn : M := .seq (.ops [⟨some 1, .box (.t 0), none, []⟩,
  ⟨some 2, .mv (.c (.slice none 0 0)), none, []⟩,
  ⟨some 3, .mv (.c (.bool false)), none, []⟩])
 (.seq (.ops [⟨some 5, .load true 5 (.t 1), none, []⟩,
  ⟨some 6, .call 81 [.t 5], none, [.f 1]⟩,
  ⟨some 4, .mv (.t 6), none, []⟩])
 (.seq (.ops [⟨some 7, .mv (.t 4), none, []⟩,
  ⟨some 8, .fld 0 (.t 1), none, []⟩,
  ⟨some 9, .load false 1 (.t 8), none, []⟩,
  ⟨some 10, .bin .eql false (.t 9) (.c (.int .i64 8)), none, []⟩,
  ⟨some 11, .mv (.t 10), none, []⟩,
  ⟨some 12, .mv (.t 4), some (11, true), []⟩,
  ⟨some 13, .len (.t 12), some (11, true), []⟩,
  ⟨some 14, .bin .mul false (.c (.int .i64 2)) (.t 13), some (11, true), []⟩,
  ⟨some 15, .fld 4 (.t 1), some (11, true), []⟩,
  ⟨some 16, .load false 1 (.t 15), some (11, true), []⟩,
  ⟨some 17, .len (.t 16), some (11, true), []⟩,
  ⟨some 18, .bin .eql false (.t 14) (.t 17), some (11, true), []⟩,
  ⟨some 19, .pick (.t 11) (.t 18) (.c (.bool false)), none, []⟩,
  ⟨some 2, .mv (.t 7), none, []⟩,
  ⟨some 3, .mv (.t 19), none, []⟩])
 (.ret)))
theorem lk_i_keysIn : look Tryd.prog 59 = some (20, m_i_keysIn, [.tm 2, .tm 3]) := by kernel_rfl
def m_i_pairsOf : M := .seq (.ops [⟨some 1, .box (.t 0), none, []⟩,
  ⟨some 2, .mv (.c (.slice none 0 0)), none, []⟩])
 (.seq (.ops [⟨some 5, .lit 10 [], none, []⟩,
  ⟨some 3, .mv (.t 5), none, []⟩])
 (.seq (.seq (.ops [⟨some 4, .mv (.c (.int .i64 0)), none, []⟩])
 (.block 0 (.loop (.seq (.seq (.ops [⟨some 6, .mv (.t 4), none, []⟩,
  ⟨some 7, .bin .add false (.t 6) (.c (.int .i64 1)), none, []⟩,
  ⟨some 8, .fld 4 (.t 1), none, []⟩,
  ⟨some 9, .load false 1 (.t 8), none, []⟩,
  ⟨some 10, .len (.t 9), none, []⟩,
  ⟨some 11, .bin .lss false (.t 7) (.t 10), none, []⟩])
 (.cond (.t 11) (.skip)
 (.exit 0)))
 (.seq (.block 1 (.ops [⟨some 14, .mv (.t 3), none, []⟩,
  ⟨some 15, .fld 4 (.t 1), none, []⟩,
  ⟨some 16, .load false 1 (.t 15), none, []⟩,
  ⟨some 17, .mv (.t 4), none, []⟩,
  ⟨some 18, .ix 5 (.t 16) (.t 17), none, []⟩,
  ⟨some 19, .load true 5 (.t 18), none, []⟩,
  ⟨some 20, .fld 4 (.t 1), none, []⟩,
  ⟨some 21, .load false 1 (.t 20), none, []⟩,
  ⟨some 22, .mv (.t 4), none, []⟩,
  ⟨some 23, .bin .add false (.t 22) (.c (.int .i64 1)), none, []⟩,
  ⟨some 24, .ix 5 (.t 21) (.t 23), none, []⟩,
  ⟨some 25, .load true 5 (.t 24), none, []⟩,
  ⟨some 26, .build [.int .i64 0, .int .i64 0, .int .i64 0, .string ⟨[].toArray⟩, .slice none 0 0, .int .i64 0, .int .i64 0, .int .i64 0, .string ⟨[].toArray⟩, .slice none 0 0] [(0, 5, .t 19), (5, 5, .t 25)], none, []⟩,
  ⟨some 27, .litq 10 [.t 26], none, []⟩,
  ⟨some 28, .app 10 (.t 14) (.t 27), none, []⟩,
  ⟨some 3, .mv (.t 28), none, []⟩]))
 (.ops [⟨some 12, .mv (.t 4), none, []⟩,
  ⟨some 13, .bin .add false (.t 12) (.c (.int .i64 2)), none, []⟩,
  ⟨some 4, .mv (.t 13), none, []⟩]))))))
 (.seq (.ops [⟨some 29, .mv (.t 3), none, []⟩,
  ⟨some 2, .mv (.t 29), none, []⟩])
 (.ret))))
theorem lk_i_pairsOf : look Tryd.prog 60 = some (30, m_i_pairsOf, [.tm 2]) := by kernel_rfl
end Go.Proofs.YtpknmldpdoadgaaDoor

/- What JSON holds of a value. No program in sight. -/
namespace Go.Proofs.YtpknmldpdoadgaaDoor
open Go.RowKit

def hexTab : List UInt8 := [48, 49, 50, 51, 52, 53, 54, 55, 56, 57, 97, 98, 99, 100, 101, 102]
def hexd (k : Nat) : UInt8 := hexTab.getD k 0
def hexL : List UInt8 → List UInt8
  | [] => []
  | b :: l => hexd (b.toNat / 16) :: hexd (b.toNat % 16) :: hexL l
theorem hexL_length : ∀ l, (hexL l).length = 2 * l.length
  | [] => rfl
  | b :: l => by simp only [hexL, List.length_cons, hexL_length l]; omega
theorem hexL_append : ∀ a b : List UInt8, hexL (a ++ b) = hexL a ++ hexL b
  | [], b => rfl
  | x :: a, b => by simp only [List.cons_append, hexL, hexL_append a b]
theorem hexL_take (l : List UInt8) (j : Nat) (h : j < l.length) : hexL (l.take (j + 1)) = hexL (l.take j) ++ [hexd (l[j].toNat / 16), hexd (l[j].toNat % 16)] := by
  rw [List.take_succ_eq_append_getElem h, hexL_append]; rfl
/-- the place of the first pair of this key -/
def mfind : List V → List UInt8 → Nat → Int
  | x :: _ :: r, s, i => if x.kind = 5 ∧ x.text = s then (i : Nat) else mfind r s (i + 2)
  | _, _, _ => -1
def keyV (x : V) : V := if x.kind = 3 then .mk 5 0 0 (Lib.itoa x.num) [] else x
def putV (acc : List V) (x y : V) : List V := if mfind acc (keyV x).text 0 < 0 then acc ++ [keyV x, y] else acc
mutual
def V.plain : V → V
  | .mk k n e s kids => if k = 6 then .mk 5 0 0 (hexL s) [] else if k = 9 then V.plainHd (.mk k n e s kids) kids else if k = 7 then .mk 7 0 0 [] (V.plains kids) else if k = 8 then .mk 8 0 0 [] (V.plainM [] kids) else .mk k n e s kids
def V.plainHd (d : V) : List V → V
  | [] => d
  | v :: _ => V.plain v
def V.plains : List V → List V
  | [] => []
  | v :: vs => V.plain v :: V.plains vs
def V.plainM (acc : List V) : List V → List V
  | [] => acc
  | [_] => acc
  | x :: y :: r => V.plainM (putV acc x (V.plain y)) r
end
end Go.Proofs.YtpknmldpdoadgaaDoor

/- What JSON holds of a right value: sizes and steps. No program in sight. -/
namespace Go.Proofs.YtpknmldpdoadgaaDoor
open Go.RowKit
open Go.Lib (validD)

/-- what is known of a right value, by its kind -/
theorem V.right_at {d k n e : Int} {s : List UInt8} {kids : List V} (h : V.rightBy pairsOk d (.mk k n e s kids) = true) :
    (∀ y ∈ kids, V.rightBy pairsOk (d - 1) y = true) ∧ V.self (.mk k n e s kids) = true := by
  simp only [V.rightBy, Bool.and_eq_true] at h
  refine ⟨fun y hy => ?_, h.2.2⟩
  have := h.1
  rw [V.rightsBy_all, List.all_eq_true] at this
  exact this y hy
theorem V.self_leaf {k n e : Int} {s : List UInt8} {kids : List V} (h : V.self (.mk k n e s kids) = true) (h7 : k ≠ 7) (h8 : k ≠ 8) (h9 : k ≠ 9) : kids = [] := by
  simp only [V.self, V.selfBy] at h
  by_cases h0 : k = 0 ∨ k = 1 ∨ k = 2
  · rw [if_pos h0] at h; simp only [Bool.and_eq_true, decide_eq_true_eq] at h; exact h.2.2.2
  rw [if_neg h0] at h
  by_cases h3 : k = 3
  · rw [if_pos h3] at h; simp only [Bool.and_eq_true, decide_eq_true_eq] at h; exact h.2.2
  rw [if_neg h3] at h
  by_cases h4 : k = 4
  · rw [if_pos h4] at h; simp only [Bool.and_eq_true, decide_eq_true_eq] at h; exact h.2.2
  rw [if_neg h4] at h
  by_cases h5 : k = 5
  · rw [if_pos h5] at h; simp only [Bool.and_eq_true, decide_eq_true_eq] at h; exact h.2.2.2.2
  rw [if_neg h5] at h
  by_cases h6 : k = 6
  · rw [if_pos h6] at h; simp only [Bool.and_eq_true, decide_eq_true_eq] at h; exact h.2.2.2
  rw [if_neg h6, if_neg h7, if_neg h8, if_neg h9] at h; cases h
theorem V.self_nine {n e : Int} {s : List UInt8} {kids : List V} (h : V.self (.mk 9 n e s kids) = true) : kids.length = 1 := by
  simp only [V.self, V.selfBy] at h; simp at h; exact h.2.2.2
theorem V.self_seven {n e : Int} {s : List UInt8} {kids : List V} (h : V.self (.mk 7 n e s kids) = true) : n = 0 ∧ e = 0 ∧ s = [] := by
  simp only [V.self, V.selfBy] at h; simp at h; exact h
theorem V.self_eight {n e : Int} {s : List UInt8} {kids : List V} (h : V.self (.mk 8 n e s kids) = true) : n = 0 ∧ e = 0 ∧ s = [] ∧ kids.length % 2 = 0 ∧ ∀ j (h : 2 * j < kids.length), isKeyK kids[2 * j].kind = true := by
  simp only [V.self, V.selfBy] at h; simp at h
  obtain ⟨h1, h2, h3, h4⟩ := h
  unfold pairsOk uniq at h4
  simp only [Bool.and_eq_true, decide_eq_true_eq, List.all_eq_true] at h4
  refine ⟨h1, h2, h3, h4.2.1, fun j hj => ?_⟩
  have := h4.1.1 ((odds kids)[j]'(by rw [odds_length]; omega)) (List.getElem_mem _)
  rw [odds_get kids j hj] at this; exact this
/-- a key of a right map is a plain one -/
theorem V.key_form {d : Int} {x : V} (h : V.rightBy pairsOk d x = true) (hk : isKeyK x.kind = true) : (x.kind = 3 ∧ ∃ n, x = .mk 3 n 0 [] []) ∨ (∃ s, x = .mk 5 0 0 s []) := by
  obtain ⟨k, n, e, s, kids⟩ := x
  simp only [V.rightBy, Bool.and_eq_true, V.selfBy] at h
  simp only [V.kind, isKeyK, Bool.or_eq_true] at hk
  rcases hk with hk | hk <;> obtain rfl := of_decide_eq_true hk
  · have := h.2.2; simp at this; right; exact ⟨s, by simp [this]⟩
  · have := h.2.2; simp at this; left; exact ⟨rfl, n, by simp [this]⟩
theorem V.plainM_step (acc kids : List V) (j : Nat) (h : 2 * j + 1 < kids.length) : V.plainM acc (kids.drop (2 * j)) = V.plainM (putV acc kids[2 * j] (V.plain kids[2 * j + 1])) (kids.drop (2 * (j + 1))) := by
  rw [List.drop_eq_getElem_cons (show 2 * j < kids.length by omega), List.drop_eq_getElem_cons (show 2 * j + 1 < kids.length from h), V.plainM, show 2 * (j + 1) = 2 * j + 1 + 1 by omega]
theorem V.plainM_end (acc kids : List V) (j : Nat) (h : ¬ 2 * j + 1 < kids.length) : V.plainM acc (kids.drop (2 * j)) = acc := by
  have hl : (kids.drop (2 * j)).length ≤ 1 := by rw [List.length_drop]; omega
  match kids.drop (2 * j), hl with
  | [], _ => rfl
  | [_], _ => rfl
theorem putV_length (acc : List V) (x y : V) : (putV acc x y).length ≤ acc.length + 2 := by unfold putV; split <;> simp
theorem V.plains_length : ∀ xs : List V, (V.plains xs).length = xs.length
  | [] => rfl
  | x :: xs => by simp [V.plains, V.plains_length xs]
theorem V.plains_append : ∀ (xs : List V) (y : V), V.plains (xs ++ [y]) = V.plains xs ++ [V.plain y]
  | [], y => rfl
  | x :: xs, y => by simp [V.plains, V.plains_append xs y]
theorem V.plains_take (xs : List V) (j : Nat) (h : j < xs.length) : V.plains (xs.take (j + 1)) = V.plains (xs.take j) ++ [V.plain xs[j]] := by
  rw [List.take_succ_eq_append_getElem h, V.plains_append]
theorem V.bulks_append : ∀ xs ys : List V, V.bulks (xs ++ ys) = V.bulks xs + V.bulks ys
  | [], ys => by simp [V.bulks]
  | x :: xs, ys => by simp only [List.cons_append, V.bulks, V.bulks_append xs ys]; omega
theorem V.wfs_append : ∀ {xs ys : List V}, V.wfs xs → V.wfs ys → V.wfs (xs ++ ys)
  | [], ys, _, h => h
  | x :: xs, ys, h, k => ⟨h.1, V.wfs_append h.2 k⟩
theorem V.nodess_append : ∀ xs ys : List V, V.nodess (xs ++ ys) = V.nodess xs + V.nodess ys
  | [], ys => by simp [V.nodess]
  | x :: xs, ys => by simp only [List.cons_append, V.nodess, V.nodess_append xs ys]; omega
theorem keyV_bulk (x : V) (h : x.wf) : (keyV x).bulk ≤ x.bulk + 21 := by
  unfold keyV; split
  · obtain ⟨k, n, e, s, kids⟩ := x
    have := Lib.itoa_length_le n h.2.1.1 h.2.1.2
    simp only [V.bulk, V.num, List.length_nil, V.bulks]; omega
  · omega
theorem keyV_nodes (x : V) : (keyV x).nodes ≤ x.nodes := by
  unfold keyV; split
  · have := x.nodes_pos; simp only [V.nodes, V.nodess]; omega
  · omega
mutual
theorem V.plain_size : ∀ x : V, x.wf → (V.plain x).bulk ≤ 2 * x.bulk + 21 * x.nodes ∧ (V.plain x).nodes ≤ x.nodes
  | .mk k n e s kids, hw => by
    have hk := hw.2.2.2.2.2
    by_cases h6 : k = 6
    · simp only [V.plain, if_pos h6, V.bulk, V.nodes, hexL_length, List.length_nil, V.bulks, V.nodess]; omega
    by_cases h9 : k = 9
    · simp only [V.plain, if_neg h6, if_pos h9]
      match kids, hk with
      | [], hk => simp only [V.plainHd]; omega
      | y :: r, hk => have := V.plain_size y hk.1; simp only [V.plainHd, V.bulk, V.nodes, V.bulks, V.nodess, List.length_cons]; omega
    by_cases h7 : k = 7
    · have := V.plains_size kids hk
      simp only [V.plain, if_neg h6, if_neg h9, if_pos h7, V.bulk, V.nodes, V.plains_length, List.length_nil]; omega
    by_cases h8 : k = 8
    · have := V.plainM_size [] kids hk
      simp only [V.plain, if_neg h6, if_neg h9, if_neg h7, if_pos h8, V.bulk, V.nodes, List.length_nil, V.bulks, V.nodess] at this ⊢; omega
    · simp only [V.plain, if_neg h6, if_neg h9, if_neg h7, if_neg h8]; omega
theorem V.plains_size : ∀ xs : List V, V.wfs xs → V.bulks (V.plains xs) ≤ 2 * V.bulks xs + 21 * V.nodess xs ∧ V.nodess (V.plains xs) ≤ V.nodess xs
  | [], _ => by simp [V.plains, V.bulks, V.nodess]
  | x :: xs, h => by have := V.plain_size x h.1; have := V.plains_size xs h.2; simp only [V.plains, V.bulks, V.nodess]; omega
theorem V.plainM_size : ∀ (acc xs : List V), V.wfs xs → V.bulks (V.plainM acc xs) ≤ V.bulks acc + 2 * V.bulks xs + 21 * V.nodess xs ∧ V.nodess (V.plainM acc xs) ≤ V.nodess acc + V.nodess xs ∧ (V.plainM acc xs).length ≤ acc.length + xs.length
  | acc, [], _ => by simp [V.plainM, V.bulks, V.nodess]
  | acc, [x], _ => by simp only [V.plainM, V.bulks, V.nodess, List.length_cons, List.length_nil]; omega
  | acc, x :: y :: r, h => by
    have h1 := V.plain_size y h.2.1
    have h2 := V.plainM_size (putV acc x (V.plain y)) r h.2.2
    have h3 := keyV_bulk x h.1
    have h4 := keyV_nodes x
    have h5 := x.nodes_pos
    have h6 : V.bulks (putV acc x (V.plain y)) ≤ V.bulks acc + (keyV x).bulk + (V.plain y).bulk := by
      unfold putV; split
      · simp only [V.bulks_append, V.bulks]; omega
      · omega
    have h7 : V.nodess (putV acc x (V.plain y)) ≤ V.nodess acc + (keyV x).nodes + (V.plain y).nodes := by
      unfold putV; split
      · simp only [V.nodess_append, V.nodess]; omega
      · omega
    have h8 := putV_length acc x (V.plain y)
    simp only [V.plainM, V.bulks, V.nodess, List.length_cons]
    omega
end

theorem keyV_wf (x : V) (h : x.wf) : (keyV x).wf := by
  unfold keyV; split
  · obtain ⟨k, n, e, s, kids⟩ := x
    have := Lib.itoa_length_le n h.2.1.1 h.2.1.2
    refine ⟨⟨by decide, by decide⟩, ⟨by decide, by decide⟩, ⟨by decide, by decide⟩, ?_, by simp, trivial⟩
    unfold strok; simp only [V.num]; omega
  · exact h
theorem putV_wf {acc : List V} {x y : V} (ha : V.wfs acc) (hx : x.wf) (hy : y.wf) : V.wfs (putV acc x y) := by
  unfold putV; split
  · exact V.wfs_append ha ⟨keyV_wf x hx, hy, trivial⟩
  · exact ha
mutual
theorem V.plain_wf : ∀ x : V, x.wf → x.bulk ≤ 4294967295 → (V.plain x).wf
  | .mk k n e s kids, hw, hb => by
    have hk := hw.2.2.2.2.2
    simp only [V.bulk] at hb
    by_cases h6 : k = 6
    · simp only [V.plain, if_pos h6]
      refine ⟨⟨by decide, by decide⟩, ⟨by decide, by decide⟩, ⟨by decide, by decide⟩, ?_, by simp, trivial⟩
      unfold strok; rw [hexL_length]; omega
    by_cases h9 : k = 9
    · simp only [V.plain, if_neg h6, if_pos h9]
      match kids, hk, hb with
      | [], hk, _ => exact hw
      | y :: r, hk, hb => exact V.plain_wf y hk.1 (by simp only [V.bulks, List.length_cons] at hb; omega)
    by_cases h7 : k = 7
    · simp only [V.plain, if_neg h6, if_neg h9, if_pos h7]
      exact ⟨⟨by decide, by decide⟩, ⟨by decide, by decide⟩, ⟨by decide, by decide⟩, by simp [strok], by rw [V.plains_length]; omega, V.plains_wf kids hk (by omega)⟩
    by_cases h8 : k = 8
    · simp only [V.plain, if_neg h6, if_neg h9, if_neg h7, if_pos h8]
      have := (V.plainM_size [] kids hk).2.2
      simp only [List.length_nil] at this
      exact ⟨⟨by decide, by decide⟩, ⟨by decide, by decide⟩, ⟨by decide, by decide⟩, by simp [strok], by omega, V.plainM_wf [] kids trivial hk (by omega)⟩
    · simp only [V.plain, if_neg h6, if_neg h9, if_neg h7, if_neg h8]; exact hw
theorem V.plains_wf : ∀ xs : List V, V.wfs xs → V.bulks xs ≤ 4294967295 → V.wfs (V.plains xs)
  | [], _, _ => trivial
  | x :: xs, h, hb => by simp only [V.bulks] at hb; exact ⟨V.plain_wf x h.1 (by omega), V.plains_wf xs h.2 (by omega)⟩
theorem V.plainM_wf : ∀ (acc xs : List V), V.wfs acc → V.wfs xs → V.bulks xs ≤ 4294967295 → V.wfs (V.plainM acc xs)
  | acc, [], ha, _, _ => ha
  | acc, [x], ha, _, _ => ha
  | acc, x :: y :: r, ha, h, hb => by
    simp only [V.bulks] at hb
    exact V.plainM_wf _ r (putV_wf ha h.1 (V.plain_wf y h.2.1 (by omega))) h.2.2 (by omega)
end
end Go.Proofs.YtpknmldpdoadgaaDoor

/- What JSON holds of any value. No program in sight. -/
namespace Go.Proofs.YtpknmldpdoadgaaDoor
open Go.RowKit
def V.plainTop (x : V) : V := if x.ok = true then (if x.plain.ok = true then x.plain else x) else x
end Go.Proofs.YtpknmldpdoadgaaDoor

/- How big what JSON holds of a value is. No program in sight. -/
namespace Go.Proofs.YtpknmldpdoadgaaDoor
open Go.RowKit
theorem V.self_text {q : List V → Bool} {k n e : Int} {s : List UInt8} {kids : List V} (h : V.selfBy q (.mk k n e s kids) = true) : s.length ≤ 2000 := by
  simp only [V.selfBy] at h
  by_cases h0 : k = 0 ∨ k = 1 ∨ k = 2
  · rw [if_pos h0] at h; simp only [Bool.and_eq_true, decide_eq_true_eq] at h; simp [h.2.2.1]
  rw [if_neg h0] at h
  by_cases h3 : k = 3
  · rw [if_pos h3] at h; simp only [Bool.and_eq_true, decide_eq_true_eq] at h; simp [h.2.1]
  rw [if_neg h3] at h
  by_cases h4 : k = 4
  · rw [if_pos h4] at h; simp only [Bool.and_eq_true, decide_eq_true_eq] at h; simp [h.2.1]
  rw [if_neg h4] at h
  by_cases h5 : k = 5
  · rw [if_pos h5] at h; simp only [Bool.and_eq_true, decide_eq_true_eq] at h; exact h.2.2.2.1
  rw [if_neg h5] at h
  by_cases h6 : k = 6
  · rw [if_pos h6] at h; simp only [Bool.and_eq_true, decide_eq_true_eq] at h; exact h.2.2.1
  rw [if_neg h6] at h
  by_cases h7 : k = 7
  · rw [if_pos h7] at h; simp only [Bool.and_eq_true, decide_eq_true_eq] at h; simp [h.2.2]
  rw [if_neg h7] at h
  by_cases h8 : k = 8
  · rw [if_pos h8] at h; simp only [Bool.and_eq_true, decide_eq_true_eq] at h; simp [h.2.2.1]
  rw [if_neg h8] at h
  by_cases h9 : k = 9
  · rw [if_pos h9] at h; simp only [Bool.and_eq_true, decide_eq_true_eq] at h; simp [h.2.2.1]
  rw [if_neg h9] at h; cases h
mutual
theorem V.right_bulk (q : List V → Bool) : ∀ (d : Int) (x : V), V.rightBy q d x = true → x.bulk + 1 ≤ 2001 * x.nodes
  | d, .mk k n e s kids, h => by
    simp only [V.rightBy, Bool.and_eq_true] at h
    have h1 := V.rights_bulk q (d - 1) kids h.1
    have h2 := V.self_text h.2.2
    simp only [V.bulk, V.nodes]; omega
theorem V.rights_bulk (q : List V → Bool) : ∀ (d : Int) (xs : List V), V.rightsBy q d xs = true → V.bulks xs + xs.length ≤ 2001 * V.nodess xs
  | _, [], _ => by simp [V.bulks]
  | d, x :: xs, h => by
    simp only [V.rightsBy, Bool.and_eq_true] at h
    have h1 := V.right_bulk q d x h.1
    have h2 := V.rights_bulk q d xs h.2
    simp only [V.bulks, V.nodess, List.length_cons]; omega
end
theorem V.ok_bulk {x : V} (h : x.ok = true) : x.bulk ≤ 1048576 := by
  unfold V.ok at h
  simp only [Bool.and_eq_true, decide_eq_true_eq] at h
  have := V.right_bulk _ _ _ h.1; omega
theorem V.plainTop_bulk {x : V} (h : x.bulk ≤ 1048576) : x.plainTop.bulk ≤ 1048576 := by
  unfold V.plainTop
  split
  · split
    · exact V.ok_bulk (by assumption)
    · exact h
  · exact h
end Go.Proofs.YtpknmldpdoadgaaDoor

/- The least shape of a value. No program in sight. -/
namespace Go.Proofs.YtpknmldpdoadgaaDoor
open Go.RowKit

def vals {α : Type} : List α → List α
  | _ :: y :: r => y :: vals r
  | _ => []
theorem vals_length {α : Type} : ∀ l : List α, (vals l).length = l.length / 2
  | [] => by simp [vals]
  | [_] => by simp [vals]
  | _ :: _ :: r => by simp only [vals, List.length_cons, vals_length r]; omega
theorem vals_get {α : Type} : ∀ (l : List α) (j : Nat) (h : 2 * j + 1 < l.length), (vals l)[j]? = some l[2 * j + 1]
  | [], j, h => by simp at h
  | [_], j, h => by simp at h
  | x :: y :: r, 0, _ => by simp [vals]
  | x :: y :: r, j + 1, h => by
    simp only [vals, List.getElem?_cons_succ]
    rw [vals_get r j (by simp at h; omega)]
    congr 1
theorem vals_map {α β : Type} (f : α → β) : ∀ l : List α, vals (l.map f) = (vals l).map f
  | [] => by simp [vals]
  | [_] => by simp [vals]
  | x :: y :: r => by simp only [List.map_cons, vals, vals_map f r]
theorem odds_at {α : Type} : ∀ (l : List α) (j : Nat) (h : 2 * j < l.length), (odds l)[j]? = some l[2 * j]
  | [], j, h => by simp at h
  | [x], 0, _ => by simp [odds]
  | [x], j + 1, h => by simp at h
  | x :: y :: r, 0, _ => by simp [odds]
  | x :: y :: r, j + 1, h => by
    simp only [odds, List.getElem?_cons_succ]
    rw [odds_at r j (by simp at h; omega)]
    congr 1
theorem keysL_le : ∀ l : List V, 2 * (keysL l).length ≤ l.length + 1
  | [] => by simp [keysL]
  | [x] => by simp only [keysL]; split <;> simp
  | x :: y :: r => by
    have := keysL_le r
    simp only [keysL]; split <;> simp <;> omega
theorem keysL_texts : ∀ l : List V, 2 * (keysL l).length = l.length → keysL l = (odds l).map V.text
  | [], _ => rfl
  | [x], h => by simp only [keysL] at h; split at h <;> simp at h
  | x :: y :: r, h => by
    have h2 := keysL_le r
    simp only [keysL] at h ⊢
    by_cases hk : x.kind = 5
    · rw [if_pos hk] at h ⊢
      simp only [List.length_cons] at h
      simp only [odds, List.map_cons, keysL_texts r (by omega)]
    · rw [if_neg hk] at h
      simp only [List.length_cons] at h; omega

def jn (a b : Sh) : Sh := joinS (a.nodes + 1) a b
def joinAll : List Sh → Sh
  | [] => shNil
  | s :: ss => ss.foldl jn s
theorem joinAll_snoc (ss : List Sh) (s : Sh) : joinAll (ss ++ [s]) = if ss.length = 0 then s else jn (joinAll ss) s := by
  cases ss with
  | nil => rfl
  | cons x xs => simp [joinAll, List.foldl_append]
theorem joinAll_take {ss : List Sh} {j : Nat} (h : j < ss.length) : joinAll (ss.take (j + 1)) = if j = 0 then ss[j] else jn (joinAll (ss.take j)) ss[j] := by
  rw [List.take_succ_eq_append_getElem h, joinAll_snoc, List.length_take, Nat.min_eq_left (Nat.le_of_lt h)]
theorem joinAll_good {ss : List Sh} (h : ∀ s ∈ ss, s.wf ∧ s.bulk ≤ 10200) : (joinAll ss).wf ∧ (joinAll ss).bulk ≤ 10200 := by
  cases ss with
  | nil => exact shNil_good
  | cons x xs =>
    have key : ∀ (l : List Sh) (a : Sh), (∀ s ∈ l, s.wf ∧ s.bulk ≤ 10200) → a.wf ∧ a.bulk ≤ 10200 → (l.foldl jn a).wf ∧ (l.foldl jn a).bulk ≤ 10200 := by
      intro l
      induction l with
      | nil => intro a _ ha; exact ha
      | cons y ys ih => intro a hl ha; exact ih _ (fun s hs => hl s (by simp [hs])) (joinS_good _ a y ha.1 (hl y (by simp)).1)
    exact key xs x (fun s hs => h s (by simp [hs])) (h x (by simp))

/-- the shape of a value whose parts have these, not looked over -/
def shRaw (v : V) (ss : List Sh) : Sh :=
  if v.kind = 0 then .mk 1 0 0 [] 0 []
  else if v.kind = 1 ∨ v.kind = 2 then .mk 2 0 0 [] 0 []
  else if v.kind = 3 then .mk 3 v.num v.num [] 0 []
  else if v.kind = 4 then .mk 4 0 0 [] 0 []
  else if v.kind = 5 then .mk 5 v.text.length v.text.length [] 0 []
  else if v.kind = 6 then .mk 6 v.text.length v.text.length [] 0 []
  else if v.kind = 7 then .mk 7 v.kids.length v.kids.length [] 0 [joinAll ss]
  else if v.texts = true then .mk 8 0 0 (keysL v.kids) (keysL v.kids).length (vals ss)
  else shNil
def chk (h : Sh) : Sh := if h.ok = true then h else shNil
mutual
def shp : V → Sh
  | .mk k n e s kids => chk (shRaw (.mk k n e s kids) (shps kids))
def shps : List V → List Sh
  | [] => []
  | v :: vs => shp v :: shps vs
end
theorem shps_map : ∀ vs : List V, shps vs = vs.map shp
  | [] => rfl
  | v :: vs => by simp [shps, shps_map vs]
theorem shp_eq (v : V) : shp v = chk (shRaw v (v.kids.map shp)) := by
  obtain ⟨k, n, e, s, kids⟩ := v
  rw [shp, shps_map]; rfl
/-- what ShapeOf gives -/
def shTop (v : V) : Sh := if v.ok = true then shp v else shNil

mutual
theorem V.right_mono (q : List V → Bool) : ∀ (d : Int) (v : V), V.rightBy q d v = true → V.rightBy q (d + 1) v = true
  | d, .mk k n e s kids, h => by
    simp only [V.rightBy, Bool.and_eq_true, decide_eq_true_eq] at h ⊢
    have := V.rights_mono q (d - 1) kids h.1
    rw [show d - 1 + 1 = d + 1 - 1 by omega] at this
    exact ⟨this, by omega, h.2.2⟩
theorem V.rights_mono (q : List V → Bool) : ∀ (d : Int) (vs : List V), V.rightsBy q d vs = true → V.rightsBy q (d + 1) vs = true
  | d, [], _ => rfl
  | d, v :: vs, h => by
    simp only [V.rightsBy, Bool.and_eq_true] at h ⊢
    exact ⟨V.right_mono q d v h.1, V.rights_mono q d vs h.2⟩
end
theorem V.ok_kid {v : V} (h : v.ok = true) (i : Nat) (hi : i < v.kids.length) : v.kids[i].ok = true := by
  obtain ⟨k, n, e, s, kids⟩ := v
  have hi' : i < kids.length := hi
  unfold V.ok at h ⊢
  rw [Bool.and_eq_true] at h ⊢
  have h5 := of_decide_eq_true h.2
  have h1 := h.1
  simp only [V.rightBy, Bool.and_eq_true] at h1
  replace h1 := h1.1
  simp only [V.nodes] at h5
  rw [V.rightsBy_all, List.all_eq_true] at h1
  have h2 := h1 kids[i] (List.getElem_mem hi')
  have h3 := V.right_mono pairsOk _ _ h2
  have h4 := V.nodes_get kids i hi'
  exact ⟨h3, decide_eq_true (by show kids[i].nodes ≤ 300; omega)⟩
theorem V.ok_len {v : V} (h : v.ok = true) : v.kids.length ≤ 300 := by
  obtain ⟨k, n, e, s, kids⟩ := v
  unfold V.ok at h
  rw [Bool.and_eq_true] at h
  have h5 := of_decide_eq_true h.2
  simp only [V.nodes] at h5
  have key : ∀ l : List V, l.length ≤ V.nodess l := by
    intro l
    induction l with
    | nil => simp [V.nodess]
    | cons x xs ih => obtain ⟨a, b, c, d, f⟩ := x; simp only [V.nodess, V.nodes, List.length_cons]; omega
  have := key kids
  show kids.length ≤ 300; omega

theorem ssBulk_le' {m : Nat} : ∀ ks : List (List UInt8), (∀ k ∈ ks, k.length ≤ m) → ssBulk ks ≤ ks.length * m
  | [], _ => by simp [ssBulk]
  | k :: ks, h => by
    have h1 := h k (by simp); have h2 := ssBulk_le' ks (fun k hk => h k (by simp [hk]))
    simp only [ssBulk, List.length_cons, Nat.succ_mul]; omega
theorem bulks_le' {m : Nat} : ∀ ss : List Sh, (∀ s ∈ ss, s.bulk ≤ m) → Sh.bulks ss ≤ ss.length * m
  | [], _ => by simp [Sh.bulks]
  | s :: ss, h => by
    have h1 := h s (by simp); have h2 := bulks_le' ss (fun k hk => h k (by simp [hk]))
    simp only [Sh.bulks, List.length_cons, Nat.succ_mul]; omega
theorem wfs_of : ∀ {ss : List Sh}, (∀ s ∈ ss, s.wf) → Sh.wfs ss
  | [], _ => trivial
  | s :: ss, h => ⟨h s (by simp), wfs_of fun t ht => h t (by simp [ht])⟩
theorem vals_mem {α : Type} : ∀ (l : List α) (x : α), x ∈ vals l → x ∈ l
  | [], x, h => by simp [vals] at h
  | [_], x, h => by simp [vals] at h
  | a :: b :: r, x, h => by
    simp only [vals, List.mem_cons] at h ⊢
    rcases h with h | h
    · exact .inr (.inl h)
    · exact .inr (.inr (vals_mem r x h))
theorem keysL_mem : ∀ (l : List V) (k : List UInt8), k ∈ keysL l → ∃ x ∈ l, k = x.text
  | [], k, h => by simp [keysL] at h
  | [x], k, h => by
    simp only [keysL] at h; split at h
    · exact ⟨x, by simp, by simpa using h⟩
    · simp at h
  | x :: y :: r, k, h => by
    simp only [keysL] at h; split at h
    · rcases List.mem_cons.1 h with h | h
      · exact ⟨x, by simp, h⟩
      · obtain ⟨z, hz, e⟩ := keysL_mem r k h; exact ⟨z, by simp [hz], e⟩
    · obtain ⟨z, hz, e⟩ := keysL_mem r k h; exact ⟨z, by simp [hz], e⟩
theorem bulks_mem : ∀ {l : List V} {x : V}, x ∈ l → x.bulk ≤ V.bulks l
  | y :: ys, x, h => by
    simp only [V.bulks]
    rcases List.mem_cons.1 h with rfl | h
    · omega
    · have := bulks_mem h; omega
theorem text_bulk (x : V) : x.text.length ≤ x.bulk := by
  obtain ⟨a, b, c, s, k⟩ := x; simp only [V.bulk, V.text]; omega
def ShG (h : Sh) : Prop := h.wf ∧ h.bulk ≤ 4294967280
theorem shRaw_good {v : V} {ss : List Sh} (hw : v.wf) (hb : v.bulk ≤ 1048576) (hn : v.kids.length ≤ 300) (hl : ss.length = v.kids.length) (hs : ∀ s ∈ ss, s.wf ∧ s.bulk ≤ 10200) : ShG (shRaw v ss) := by
  have hkw : i64ok v.num := by obtain ⟨k, n, e, s, kids⟩ := v; exact hw.2.1
  have ht := text_bulk v
  have hbk : V.bulks v.kids ≤ 1048576 := by obtain ⟨k, n, e, s, kids⟩ := v; simp only [V.bulk] at hb; show V.bulks kids ≤ _; omega
  have leaf : ∀ a b c : Int, i64ok a → i64ok b → i64ok c → ShG (Sh.mk a b c [] 0 []) := by
    intro a b c ha hb hc
    refine ⟨⟨ha, hb, hc, ⟨by simp, by simp⟩, by unfold i64ok; omega, by simp, trivial⟩, by simp [Sh.bulk, ssBulk, Sh.bulks]⟩
  unfold shRaw
  by_cases hc : v.kind = 0
  · rw [if_pos hc]
    exact leaf _ _ _ (by unfold i64ok; omega) (by unfold i64ok; omega) (by unfold i64ok; omega)
  rw [if_neg hc]
  clear hc
  by_cases hc : v.kind = 1 ∨ v.kind = 2
  · rw [if_pos hc]
    exact leaf _ _ _ (by unfold i64ok; omega) (by unfold i64ok; omega) (by unfold i64ok; omega)
  rw [if_neg hc]
  clear hc
  by_cases hc : v.kind = 3
  · rw [if_pos hc]
    exact leaf _ _ _ (by unfold i64ok; omega) hkw hkw
  rw [if_neg hc]
  clear hc
  by_cases hc : v.kind = 4
  · rw [if_pos hc]
    exact leaf _ _ _ (by unfold i64ok; omega) (by unfold i64ok; omega) (by unfold i64ok; omega)
  rw [if_neg hc]
  clear hc
  by_cases hc : v.kind = 5
  · rw [if_pos hc]
    exact leaf _ _ _ (by unfold i64ok; omega) (by unfold i64ok; omega) (by unfold i64ok; omega)
  rw [if_neg hc]
  clear hc
  by_cases hc : v.kind = 6
  · rw [if_pos hc]
    exact leaf _ _ _ (by unfold i64ok; omega) (by unfold i64ok; omega) (by unfold i64ok; omega)
  rw [if_neg hc]
  clear hc
  by_cases hc : v.kind = 7
  · rw [if_pos hc]
    have hj := joinAll_good hs
    refine ⟨⟨by unfold i64ok; omega, by unfold i64ok; omega, by unfold i64ok; omega, ⟨by simp, by simp⟩, by unfold i64ok; omega, by simp, hj.1, trivial⟩, ?_⟩
    simp only [Sh.bulk, ssBulk, Sh.bulks, List.length_nil, List.length_cons]; omega
  rw [if_neg hc]
  clear hc
  by_cases hc : v.texts = true
  · rw [if_pos hc]
    have hk : ∀ k ∈ keysL v.kids, k.length ≤ 1048576 := fun k hk => by
      obtain ⟨x, hx, rfl⟩ := keysL_mem v.kids k hk
      have := text_bulk x; have := bulks_mem hx; omega
    have hkl := keysL_le v.kids
    have hvl := vals_length ss
    have b1 := ssBulk_le' (keysL v.kids) hk
    have b2 := bulks_le' (m := 10200) (vals ss) (fun s h => (hs s (vals_mem ss s h)).2)
    have b3 : (keysL v.kids).length * 1048576 ≤ 300 * 1048576 := Nat.mul_le_mul_right _ (by omega)
    have b4 : (vals ss).length * 10200 ≤ 300 * 10200 := Nat.mul_le_mul_right _ (by omega)
    refine ⟨⟨by unfold i64ok; omega, by unfold i64ok; omega, by unfold i64ok; omega, ⟨by omega, fun k h => by have := hk k h; unfold strok; omega⟩, by unfold i64ok; omega, by omega, wfs_of fun s h => (hs s (vals_mem ss s h)).1⟩, ?_⟩
    simp only [Sh.bulk]; omega
  rw [if_neg hc]
  clear hc
  exact ⟨shNil_good.1, by have := shNil_good.2; omega⟩
theorem chk_good {h : Sh} (hw : h.wf) : (chk h).wf ∧ (chk h).bulk ≤ 10200 := by
  unfold chk; split
  · rename_i hk; exact ⟨hw, (Sh.ok_bulk hk).1⟩
  · exact shNil_good
theorem V.wf_kid {v : V} (h : v.wf) (i : Nat) (hi : i < v.kids.length) : v.kids[i].wf := by
  obtain ⟨k, n, e, s, kids⟩ := v
  exact V.wfs_get h.2.2.2.2.2 i hi
theorem V.nodes_kid {v : V} {n : Nat} (h : v.nodes ≤ n + 1) (i : Nat) (hi : i < v.kids.length) : v.kids[i].nodes ≤ n := by
  obtain ⟨k, m, e, s, kids⟩ := v
  have hi' : i < kids.length := hi
  have := V.nodes_get kids i hi'
  simp only [V.nodes] at h
  show kids[i].nodes ≤ n; omega
theorem shp_good : ∀ (n : Nat) (v : V), v.nodes ≤ n → v.wf → v.ok = true → (shp v).wf ∧ (shp v).bulk ≤ 10200
  | 0, v, h, _, _ => by obtain ⟨k, m, e, s, kids⟩ := v; simp [V.nodes] at h
  | n + 1, v, h, hw, hk => by
    rw [shp_eq]
    refine chk_good (shRaw_good hw (V.ok_bulk hk) (V.ok_len hk) (by simp) fun s hs => ?_).1
    obtain ⟨x, hx, rfl⟩ := List.mem_map.1 hs
    obtain ⟨i, hi, rfl⟩ := List.mem_iff_getElem.1 hx
    exact shp_good n _ (V.nodes_kid h i hi) (V.wf_kid hw i hi) (V.ok_kid hk i hi)
theorem shps_good {v : V} (hw : v.wf) (hk : v.ok = true) : ∀ s ∈ v.kids.map shp, s.wf ∧ s.bulk ≤ 10200 := fun s hs => by
  obtain ⟨x, hx, rfl⟩ := List.mem_map.1 hs
  obtain ⟨i, hi, rfl⟩ := List.mem_iff_getElem.1 hx
  exact shp_good _ _ (Nat.le_refl _) (V.wf_kid hw i hi) (V.ok_kid hk i hi)
theorem shTop_good {v : V} (hw : v.wf) : (shTop v).wf ∧ (shTop v).bulk ≤ 10200 := by
  unfold shTop; split
  · rename_i h; exact shp_good _ v (Nat.le_refl _) hw h
  · exact shNil_good
end Go.Proofs.YtpknmldpdoadgaaDoor

/- From the claim's own reading of an argument to the reading that the walks use. No program in sight. -/
namespace Go.Proofs.YtpknmldpdoadgaaDoor
open Go.RowKit

theorem RepCs.append {S : Nat → Prop} {w : World} : ∀ {ds es : List D} {c1 c2 : List Value}, RepCs S w ds c1 → RepCs S w es c2 → RepCs S w (ds ++ es) (c1 ++ c2)
  | [], es, c1, c2, h, k => by simp only [RepCs] at h; subst h; exact k
  | d :: ds, es, c1, c2, h, k => by
    simp only [RepCs] at h; obtain ⟨e1, e2, rfl, hl, h1, h2⟩ := h
    simp only [List.cons_append, RepCs]
    exact ⟨e1, e2 ++ c2, by simp, hl, h1, RepCs.append h2 k⟩
theorem RepCs.one {S : Nat → Prop} {w : World} {d : D} {c : List Value} (h : RepC S w d c) : RepCs S w [d] c := by
  simp only [RepCs]; exact ⟨c, [], by simp, h.len, h, rfl⟩

section
variable {H : Type} {enc : TypeId × Value → H} {P : Program} {w : World} {base : Nat} {spare : Nat → Bool} {held : Bool}

/-- a slice, its elements' reading given -/
theorem trod_sl {α : Type} {t e : TypeId} {n0 : Nat} {f : α → D} {ok : α → Prop} (ht : P.underlying t = some (.slice e)) (hc : P.cellsOf e = n0) (hn : 0 < n0) (hw : ∀ x, D.width (f x) = n0)
    {fuel : Nat} (helem : ∀ n cs y, n < fuel → DataW.trod enc P w base spare held n e cs = some y → ∃ x : α, Rd w (f x) cs ∧ ok x)
    {cs : List Value} {y : DataW H × List MemPlace} (h : DataW.trod enc P w base spare held fuel t cs = some y) :
    ∃ (xs : List α) (v : Value), cs = [v] ∧ Rd w (.sl n0 (xs.map f)) [v] ∧ (∀ x ∈ xs, ok x) ∧ xs.length ≤ maxLen := by
  rcases DataW.trod_slice ht h with ⟨rfl, _⟩ | ⟨a, len, cap, elems, rest, n, hfu, rfl, _, _, hl, hm, hlen, hel, _, _⟩
  · exact ⟨[], _, rfl, by simp [Rd, RepC], by simp, by simp⟩
  · have key : ∀ k, k ≤ len → ∃ (xs : List α) (flat : List Value), xs.length = k ∧ flat.length = n0 * k ∧ RepCs (· < w.heap.size) w (xs.map f) flat ∧ (∀ x ∈ xs, ok x) ∧ ∀ (j : Nat) u, flat[j]? = some u → w.cell? (a.add j) = some u := by
      intro k
      induction k with
      | zero => intro _; exact ⟨[], [], rfl, rfl, by simp [RepCs], by simp, by simp⟩
      | succ k ih =>
        intro hk
        obtain ⟨xs, flat, h1, h2, h3, h4, h5⟩ := ih (by omega)
        have hek := hel k (by omega)
        rw [List.getElem?_eq_getElem (by omega)] at hek
        cases hcs : w.cells? base (a.add (k * P.cellsOf e)) (P.cellsOf e) with
        | none => rw [hcs] at hek; simp at hek
        | some cs' =>
          rw [hcs, Option.bind_some] at hek
          obtain ⟨x, hx1, hx2⟩ := helem n _ _ (by omega) hek
          obtain ⟨_, hcl, hcc⟩ := World.cells?_some hcs
          refine ⟨xs ++ [x], flat ++ cs', by simp [h1], by rw [List.length_append, h2, hcl, hc, Nat.mul_succ], ?_, ?_, ?_⟩
          · rw [List.map_append]; exact RepCs.append h3 (RepCs.one hx1)
          · intro z hz; rcases List.mem_append.1 hz with hz | hz
            · exact h4 z hz
            · simp at hz; subst hz; exact hx2
          · intro j u hj
            by_cases hjl : j < flat.length
            · rw [List.getElem?_append_left hjl] at hj; exact h5 j u hj
            · rw [List.getElem?_append_right (by omega)] at hj
              have hjn : j - flat.length < cs'.length := by
                rcases Nat.lt_or_ge (j - flat.length) cs'.length with h | h
                · exact h
                · simp [List.getElem?_eq_none h] at hj
              have := hcc (j - flat.length) (by omega)
              rw [Addr.add_add, hc, h2, Nat.mul_comm k n0, show n0 * k + (j - n0 * k) = j by omega] at this
              rw [this, ← h2]; exact hj
    obtain ⟨xs, flat, h1, h2, h3, h4, h5⟩ := key len (Nat.le_refl _)
    refine ⟨xs, _, rfl, ?_, h4, by omega⟩
    simp only [Rd, RepC]
    refine ⟨some a, cap, by simp [h1], fun hne => ?_⟩
    have hpos : 0 < len := by
      rcases Nat.eq_zero_or_pos len with h0 | h0
      · exfalso; apply hne; rw [List.map_eq_nil_iff, ← List.length_eq_zero_iff]; omega
      · exact h0
    have hfl : 0 < flat.length := by rw [h2]; exact Nat.mul_pos hn hpos
    have hc0 := h5 0 flat[0] (by simp)
    have hsp : a.spot = none := by
      have := World.cell?_spot hc0
      simpa [Addr.add] using this
    obtain ⟨b, o, s⟩ := a
    simp only at hsp
    subst hsp
    have hb : b < w.heap.size := by
      rw [add_plain] at hc0
      by_cases hlt : b < w.heap.size
      · exact hlt
      · simp [World.cell?, Array.getElem?_eq_none (Nat.not_lt.1 hlt)] at hc0
    refine ⟨hn, by simpa [h1] using hl, hm, b, o, flat, rfl, hb, fun j u hj => ?_, ?_, h3⟩
    · have := h5 j u hj; rwa [add_plain] at this
    · intro x hx; rw [List.mem_map] at hx; obtain ⟨z, _, rfl⟩ := hx; exact hw z

theorem trod_i64 {t : TypeId} (ht : P.underlying t = some (.int .i64)) {fuel : Nat} {cs : List Value} {y : DataW H × List MemPlace} (h : DataW.trod enc P w base spare held fuel t cs = some y) : ∃ n, cs = [.int .i64 n] ∧ i64ok n := by
  obtain ⟨n, h1, _, h2⟩ := DataW.trod_int ht h; exact ⟨n, h1, i64ok_wf h2⟩
theorem trod_str {t : TypeId} (ht : P.underlying t = some .string) {fuel : Nat} {cs : List Value} {y : DataW H × List MemPlace} (h : DataW.trod enc P w base spare held fuel t cs = some y) : ∃ l : List UInt8, cs = [.string ⟨l.toArray⟩] ∧ strok l := by
  obtain ⟨s, h1, _, h2⟩ := DataW.trod_string ht h
  exact ⟨s.data.toList, by simpa using h1, h2⟩
theorem trod_strs {t e : TypeId} (ht : P.underlying t = some (.slice e)) (he : P.underlying e = some .string) (hc : P.cellsOf e = 1)
    {fuel : Nat} {cs : List Value} {y : DataW H × List MemPlace} (h : DataW.trod enc P w base spare held fuel t cs = some y) : ∃ (ls : List (List UInt8)) (v : Value), cs = [v] ∧ Rd w (dSs ls) [v] ∧ (∀ s ∈ ls, strok s) ∧ ls.length ≤ maxLen :=
  trod_sl (f := dS) (ok := strok) ht hc (by decide) (fun _ => rfl) (fun n cs y _ h => by
    obtain ⟨l, rfl, hl⟩ := trod_str he h; exact ⟨l, by simp [Rd, dS, RepC], hl⟩) h
end
end Go.Proofs.YtpknmldpdoadgaaDoor

/- Decimals of a value: the program's fits and isDec, the reference's l02Whole. -/
namespace Go.Proofs.YtpknmldpdoadgaaDoor
open Go.RowKit

theorem fitsN_yes {k : Nat} {n : Int} (h : -9223372036854775808 ≤ n * 10 ∧ n * 10 ≤ 9223372036854775807) : fitsN (k + 1) n = fitsN k (n * 10) := by
  show (inR _ _ _ && _) = _; rw [inR_yes h]; rfl
theorem fitsN_no {k : Nat} {n : Int} (h : ¬ (-9223372036854775808 ≤ n * 10 ∧ n * 10 ≤ 9223372036854775807)) : fitsN (k + 1) n = false := by
  show (inR _ _ _ && _) = _; rw [inR_no h]; rfl
theorem tdiv10 (q : Int) : Int.tdiv q 10 * 10 - 9 ≤ q ∧ q ≤ Int.tdiv q 10 * 10 + 9 ∧ (0 ≤ q → Int.tdiv q 10 * 10 ≤ q) ∧ (q ≤ 0 → q ≤ Int.tdiv q 10 * 10) := by
  have h1 := Int.mul_tdiv_add_tmod q 10
  have h2 := Int.tmod_lt_of_pos q (show (0 : Int) < 10 by decide)
  have h3 : -10 < Int.tmod q 10 := by have := Int.tmod_lt_of_pos (-q) (show (0 : Int) < 10 by decide); rw [Int.neg_tmod] at this; omega
  have h4 : 0 ≤ q → 0 ≤ Int.tmod q 10 := fun h => Int.tmod_nonneg 10 h
  have h5 : q ≤ 0 → Int.tmod q 10 ≤ 0 := fun h => by have := Int.tmod_nonneg 10 (show 0 ≤ -q by omega); rw [Int.neg_tmod] at this; omega
  refine ⟨by omega, by omega, fun h => ?_, fun h => ?_⟩
  · have := h4 h; omega
  · have := h5 h; omega
theorem wrap_no {n : Int} (h : ¬ (-9223372036854775808 ≤ n * 10 ∧ n * 10 ≤ 9223372036854775807)) : (wrap64 (Int.tdiv (wrap64 (n * 10)) 10) != n) = true := by
  simp only [bne_iff_ne, ne_eq]
  intro e
  have hq : -9223372036854775808 ≤ wrap64 (n * 10) ∧ wrap64 (n * 10) ≤ 9223372036854775807 := by unfold wrap64; omega
  generalize wrap64 (n * 10) = q at e hq
  obtain ⟨a, b, c, d⟩ := tdiv10 q
  have : wrap64 (Int.tdiv q 10) = Int.tdiv q 10 := by unfold wrap64; omega
  rw [this] at e
  subst e
  by_cases h0 : 0 ≤ q
  · have := c h0; omega
  · have := d (by omega); omega

set_option maxHeartbeats 400000 in
theorem l02Whole_any (n : Int) (k : Nat) (w : World) (hn : i64ok n) (hk : k ≤ 1000) :
    Calls Tryd.prog 89 #[.int .i64 n, .int .i64 k] w fun e w' => e = .returned (.bool (decide (0 < k) && fitsN k n)) ∧ w = w' := by
  obtain ⟨ok, hok⟩ : ∃ ok, fitsN k n = ok := ⟨_, rfl⟩
  rw [hok]
  have HOK := Lib.hid hok; clear hok
  go_enter Tryd.func89, Tryd.ntmps89
  go_wp2
  go_loopw [0, 5] (fun x i wr => ∃ (j : Nat) (m : Int), j ≤ k ∧ i = .int .i64 j ∧ x = .int .i64 m ∧ i64ok m ∧ fitsN (k - j) m = ok ∧ w = wr) (fun _ i _ => k - (intOf i).toNat)
  case atStart => exact ⟨0, n, Nat.zero_le _, rfl, rfl, hn, HOK.out, rfl⟩
  case round =>
    obtain ⟨j, m, hj, rfl, rfl, hm, hf, rfl⟩ := hrel
    by_cases hlt : j < k
    · obtain ⟨r, hr⟩ : ∃ r, k - j = r + 1 := ⟨k - j - 1, by omega⟩
      rw [hr] at hf
      have hlt' : (j : Int) < k := by omega
      by_cases hin : -9223372036854775808 ≤ m * 10 ∧ m * 10 ≤ 9223372036854775807
      · rw [fitsN_yes hin] at hf
        have HF := Lib.hid hf; clear hf
        go_wp2
        exact ⟨⟨j + 1, m * 10, by omega, by go_num, rfl, hin, by rw [show k - (j + 1) = r by omega]; exact HF.out, trivial⟩, by simp [intOf]; omega⟩
      · rw [fitsN_no hin] at hf
        have HF := Lib.hid hf; clear hf
        have hw := wrap_no hin
        go_wp2
        go_ret
        exact ⟨by rw [← HF.out]; simp, rfl⟩
    · obtain rfl : j = k := by omega
      rw [Nat.sub_self] at hf
      have HF := Lib.hid (show true = ok from hf); clear hf
      go_wp2
      go_ret
      exact ⟨by rw [← HF.out]; simp, rfl⟩

def fitsR (ok : Bool) (p : Int) : Value := if ok then .tuple #[.int .i64 p, .bool true] else .tuple #[.int .i64 0, .bool false]
theorem fitsR_yes (p : Int) : .tuple #[.int .i64 p, .bool true] = fitsR true p := rfl
theorem fitsR_no (p : Int) : .tuple #[.int .i64 0, .bool false] = fitsR false p := rfl
set_option maxHeartbeats 400000 in
theorem fits_any (n : Int) (k : Nat) (w : World) (hn : i64ok n) (hk : k ≤ 1000) :
    Calls Tryd.prog 98 #[.int .i64 n, .int .i64 k] w fun e w' => e = .returned (fitsR (fitsN k n) (n * 10 ^ k)) ∧ w = w' := by
  obtain ⟨ok, hok⟩ : ∃ ok, fitsN k n = ok := ⟨_, rfl⟩
  obtain ⟨p, hp⟩ : ∃ p, n * 10 ^ k = p := ⟨_, rfl⟩
  rw [hok, hp]
  have HOK := Lib.hid hok; clear hok
  have HP := Lib.hid hp; clear hp
  go_enter Tryd.func98, Tryd.ntmps98
  go_wp2
  go_loopw [0, 1] (fun x i wr => ∃ (j : Nat) (m : Int), j ≤ k ∧ i = .int .i64 j ∧ x = .int .i64 m ∧ i64ok m ∧ fitsN j m = ok ∧ m * 10 ^ j = p ∧ w = wr) (fun _ i _ => (intOf i).toNat)
  case atStart => exact ⟨k, n, Nat.le_refl _, rfl, rfl, hn, HOK.out, HP.out, rfl⟩
  case round =>
    obtain ⟨j, m, hj, rfl, rfl, hm, hf, hpp, rfl⟩ := hrel
    by_cases hj0 : j = 0
    · subst hj0
      have HF := Lib.hid (show true = ok from hf)
      have HPP := Lib.hid (show m = p by simpa using hpp)
      clear hf hpp
      go_wp2
      go_ret2
      exact ⟨by rw [← HF.out, HPP.out]; rfl, rfl⟩
    · obtain ⟨r, rfl⟩ : ∃ r, j = r + 1 := ⟨j - 1, by omega⟩
      have hj1 : (0 : Int) < (r + 1 : Nat) := by omega
      have hpp2 : m * 10 * 10 ^ r = p := by rw [← hpp, Int.pow_succ, Int.mul_assoc, Int.mul_comm 10]
      have HPP := Lib.hid hpp2
      by_cases hm0 : m = 0
      · subst hm0
        have h0 : ∀ r, fitsN r 0 = true := by intro r; induction r with
          | zero => rfl
          | succ r ih => rw [fitsN_yes (by decide)]; exact ih
        have HF := Lib.hid (show true = ok by rw [← hf, h0])
        have HP0 := Lib.hid (show (0 : Int) = p by simpa using hpp)
        clear hf hpp hpp2 h0
        go_wp2
        go_ret2
        exact ⟨by rw [← HF.out, ← HP0.out]; rfl, rfl⟩
      · have hne : (m != 0) = true := by simpa using hm0
        by_cases hin : -9223372036854775808 ≤ m * 10 ∧ m * 10 ≤ 9223372036854775807
        · rw [fitsN_yes hin] at hf
          have HF := Lib.hid hf; clear hf hpp hpp2
          have g1 : ¬ (922337203685477580 : Int) < m := by omega
          have g2 : ¬ m < (-922337203685477580 : Int) := by omega
          go_wp2
          exact ⟨⟨r, m * 10, by omega, by go_num, rfl, hin, HF.out, HPP.out, trivial⟩, by simp [intOf]⟩
        · rw [fitsN_no hin] at hf
          have HF := Lib.hid hf; clear hf hpp hpp2
          by_cases g1 : (922337203685477580 : Int) < m
          · go_wp2
            go_ret2
            exact ⟨by rw [← HF.out]; rfl, rfl⟩
          · have g2 : m < (-922337203685477580 : Int) := by omega
            go_wp2
            go_ret2
            exact ⟨by rw [← HF.out]; rfl, rfl⟩

theorem decOk_e {n e : Int} (h : ¬ (-20 ≤ e ∧ e ≤ 20)) : decOk n e = false := by unfold decOk; rw [inR_no h]; rfl
set_option maxHeartbeats 1000000 in
set_option maxRecDepth 10000 in
theorem isDec_any (x : V) (cs : List Value) (w : World) (h : Rd w x.d cs) (hwf : x.wf) :
    Calls Tryd.prog 92 #[.agg cs.toArray] w fun e w' => e = .returned (.bool (decOk x.num x.exp)) ∧ Below w.heap.size w w' := by
  obtain ⟨k, n, e, s, kids, v1, rfl, rfl, hkids⟩ := V.lay h
  obtain ⟨a1, c1, rfl⟩ := Rd.sl_form hkids
  obtain ⟨hk, hn, he, hs, _⟩ := hwf
  have H1 := Lib.hid (decOk_e (n := n) (e := e))
  show Calls _ _ _ _ fun e' w' => e' = .returned (.bool (decOk n e)) ∧ _
  obtain ⟨ok, hok⟩ : ∃ ok, decOk n e = ok := ⟨_, rfl⟩
  rw [hok]
  have HA := Lib.hid ((Below.refl w.heap.size w).alloc (Nat.le_refl _) (.cells #[.int .i64 k, .int .i64 n, .int .i64 e, .string ⟨s.toArray⟩, .slice a1 (V.ds kids).length c1] 42))
  clear h hkids
  by_cases h1 : -20 ≤ e ∧ e ≤ 20
  · by_cases h2 : e = 0
    · have H : Hid (ok = false) := by show _ = _; rw [← hok, h2]; unfold decOk; rw [inR_yes (by decide)]; simp
      subst h2
      clear hok
      go_enter Tryd.func92, Tryd.ntmps92
      go_wp2
      go_ret
      exact ⟨by rw [H.out]; rfl, HA.out⟩
    · have g2 : (e == 0) = false := by simpa using h2
      by_cases h3 : -999999999999999999 ≤ n ∧ n ≤ 999999999999999999
      · by_cases h4 : Int.tmod n 10 = 0
        · have H : Hid (ok = false) := by show _ = _; rw [← hok]; unfold decOk; rw [h4]; simp
          have g4 : (Int.tmod n 10 == 0) = true := by simpa using h4
          clear hok
          go_enter Tryd.func92, Tryd.ntmps92
          go_wp2
          go_ret
          exact ⟨by rw [H.out]; rfl, HA.out⟩
        · have g4 : (Int.tmod n 10 == 0) = false := by simpa using h4
          by_cases h5 : 0 < e
          · obtain ⟨j, rfl⟩ : ∃ j : Nat, e = j := ⟨e.toNat, by omega⟩
            have H : Hid (ok = !fitsN j n) := by show _ = _; rw [← hok]; unfold decOk; rw [inR_yes h1, inR_yes h3]; simp [h4, show j ≠ 0 by omega, show 0 < j by omega]
            clear hok
            go_enter Tryd.func92, Tryd.ntmps92
            cases hf : fitsN j n with
            | true =>
              have HF := Lib.hid hf; clear hf
              go_wp2_with (first | (go_at_call 83; refine (within_any _ _ _ _).mono ?_; rintro e w1 ⟨rfl, rfl⟩; first | rw [inR_yes h1] | rw [inR_yes h3]) | (go_at_call 98; refine (fits_any n j _ hn (by omega)).mono ?_; rw [HF.out]; rintro e w1 ⟨rfl, rfl⟩; simp only [fitsR, if_true]))
              go_ret
              exact ⟨by rw [H.out, HF.out]; rfl, HA.out⟩
            | false =>
              have HF := Lib.hid hf; clear hf
              go_wp2_with (first | (go_at_call 83; refine (within_any _ _ _ _).mono ?_; rintro e w1 ⟨rfl, rfl⟩; first | rw [inR_yes h1] | rw [inR_yes h3]) | (go_at_call 98; refine (fits_any n j _ hn (by omega)).mono ?_; rw [HF.out]; rintro e w1 ⟨rfl, rfl⟩; simp only [fitsR, Bool.false_eq_true, if_false]))
              go_ret
              exact ⟨by rw [H.out, HF.out]; rfl, HA.out⟩
          · have H : Hid (ok = true) := by show _ = _; rw [← hok]; unfold decOk; rw [inR_yes h1, inR_yes h3]; simp [h2, h4, h5]
            clear hok
            go_enter Tryd.func92, Tryd.ntmps92
            go_wp2
            go_ret
            exact ⟨by rw [H.out]; rfl, HA.out⟩
      · have H : Hid (ok = false) := by show _ = _; rw [← hok]; unfold decOk; rw [inR_no h3]; simp
        clear hok
        go_enter Tryd.func92, Tryd.ntmps92
        go_wp2
        all_goals (go_ret; exact ⟨by rw [H.out]; rfl, HA.out⟩)
  · have H : Hid (ok = false) := hok.symm.trans (H1.out h1)
    clear hok
    go_enter Tryd.func92, Tryd.ntmps92
    go_wp2
    all_goals (go_ret; exact ⟨by rw [H.out]; rfl, HA.out⟩)
end Go.Proofs.YtpknmldpdoadgaaDoor

/- Whether values are keys and values by turns: the reference's l02Pairs. -/
namespace Go.Proofs.YtpknmldpdoadgaaDoor
open Go.RowKit

theorem marks_snoc {α : Type} (f : V → α) (ks : List V) (m : Nat) (h : m < ks.length) : (ks.take (m + 1)).map f = (ks.take m).map f ++ [f ks[m]] := by
  rw [List.take_succ_eq_append_getElem h, List.map_append]; rfl

theorem uniq_more {α : Type} [DecidableEq α] {f : V → α} {ks : List V} {j : Nat} (hj : j < ks.length) (h : uniq f (ks.take j) = true) (hk : isKeyK ks[j].kind = true) (hn : f ks[j] ∉ (ks.take j).map f) : uniq f (ks.take (j + 1)) = true := by
  rw [List.take_succ_eq_append_getElem hj, uniq_snoc, h, hk, decide_eq_true hn]; rfl
theorem uniq_bad1 {α : Type} [DecidableEq α] {f : V → α} {ks : List V} {j : Nat} (hj : j < ks.length) (hk : isKeyK ks[j].kind = false) : uniq f ks = false := by
  apply uniq_take (j + 1)
  rw [List.take_succ_eq_append_getElem hj, uniq_snoc, hk, Bool.false_and, Bool.and_false]
theorem uniq_bad2 {α : Type} [DecidableEq α] {f : V → α} {ks : List V} {j : Nat} (hj : j < ks.length) (hn : f ks[j] ∈ (ks.take j).map f) : uniq f ks = false := by
  apply uniq_take (j + 1)
  rw [List.take_succ_eq_append_getElem hj, uniq_snoc, decide_eq_false (fun h => h hn), Bool.and_false, Bool.and_false]

set_option maxHeartbeats 4000000 in
set_option maxRecDepth 10000 in
theorem l02Pairs_any (xs : List V) (v : Value) (w : World) (h : Rd w (.sl 5 (V.ds xs)) [v]) (hlen : xs.length ≤ 4294967295) :
    Calls Tryd.prog 91 #[v] w fun e w' => e = .returned (.bool (pairsOk xs)) ∧ Below w.heap.size w w' := by
  obtain ⟨a, c, rfl, hg⟩ := h.values
  obtain ⟨ok, hok⟩ : ∃ ok, pairsOk xs = ok := ⟨_, rfl⟩
  rw [hok]
  have HOK := Lib.hid hok; clear hok h
  obtain ⟨ks, hks⟩ : ∃ ks, odds xs = ks := ⟨_, rfl⟩
  have hkl : ks.length = (xs.length + 1) / 2 := by rw [← hks, odds_length]
  have HKG : Hid (∀ j (h1 : 2 * j < xs.length) (h2 : j < ks.length), ks[j] = xs[2 * j]) := by
    intro j h1 h2; subst hks; exact odds_get xs j h1
  have HKS := Lib.hid hks; clear hks
  go_enter Tryd.func91, Tryd.ntmps91
  go_wp2
  go_loopw [3] (fun i wr => ∃ (j k : Nat), k = 2 * j ∧ j ≤ ks.length ∧ i = .int .i64 k ∧ uniq V.mark (ks.take j) = true ∧ Below w.heap.size w wr) (fun i _ => xs.length + 1 - (intOf i).toNat)
  case atStart => exact ⟨0, 0, rfl, Nat.zero_le _, rfl, by simp [uniq], Below.refl _ _⟩
  case round =>
    obtain ⟨j, k, hkj, hj, rfl, hu, hbel⟩ := hrel
    have HKJ := Lib.hid hkj
    have HU := Lib.hid hu; clear hu
    by_cases hlt : k < xs.length
    · have hjk : j < ks.length := by omega
      have hkk := HKG.out j (by omega) hjk
      obtain ⟨_, _, b, o, rfl, hb, hcell⟩ := hg (by intro e; rw [e] at hlt; simp at hlt)
      have HC := Lib.hid hcell
      obtain ⟨v0, v1, v2, v3, v4, hr, d0, d1, d2, d3, d4⟩ := hcell k hlt
      clear hcell
      obtain ⟨xk, xn, xe, xs', xkids, y4, hx, hcs, _⟩ := V.lay hr
      simp only [List.cons.injEq, and_true] at hcs
      obtain ⟨rfl, rfl, rfl, rfl, rfl⟩ := hcs
      have hbc := (bcell hbel).1
      have D0 := Lib.hid d0
      have D1 := Lib.hid d1
      have D3 := Lib.hid d3
      rw [← hbc _ _ hb] at d0 d1 d3
      clear hr d2 d4
      have hkx : ks[j] = .mk xk xn xe xs' xkids := by rw [hkk, ← hx]; subst hkj; rfl
      have hi1 : (0 : Int) ≤ k := by omega
      have hi3 : (k : Int) < xs.length := by omega
      have HX := Lib.hid hkx
      clear hbc hkk hx hkx hkj
      by_cases hkey : isKeyK xk = true
      · have HK := Lib.hid hkey
        have hkk : (xk != 5) = false ∨ ((xk != 5) = true ∧ (xk != 3) = false) := by simp [isKeyK] at hkey ⊢; omega
        clear hkey
        rcases hkk with hk5 | ⟨hk5, hk3⟩
        · go_wp2
          go_loopw [4] (fun i wr => ∃ (m r : Nat), r = 2 * m ∧ m ≤ j ∧ i = .int .i64 r ∧ (V.mk xk xn xe xs' xkids).mark ∉ (ks.take m).map V.mark ∧ Below w.heap.size w wr) (fun i _ => k + 1 - (intOf i).toNat)
          case atStart => exact ⟨0, 0, rfl, Nat.zero_le _, rfl, by simp, hbel⟩
          case round =>
            obtain ⟨m, r, hrm, hm, rfl, hni, hbel2⟩ := hrel
            have HRM := Lib.hid hrm
            have HNI := Lib.hid hni; clear hni
            have hkj := HKJ.out
            by_cases hml : r < k
            · have hmk : m < ks.length := by omega
              have hmm := HKG.out m (by omega) hmk
              obtain ⟨u0, u1, u2, u3, u4, hr2, e0, e1, e2, e3, e4⟩ := HC.out r (by omega)
              obtain ⟨yk, yn, ye, ys, ykids, y5, hy, hcs2, _⟩ := V.lay hr2
              simp only [List.cons.injEq, and_true] at hcs2
              obtain ⟨rfl, rfl, rfl, rfl, rfl⟩ := hcs2
              have hbc2 := (bcell hbel2).1
              rw [← hbc2 _ _ hb] at e0 e1 e3
              have d0' := (hbc2 _ _ hb).trans D0.out
              have d1' := (hbc2 _ _ hb).trans D1.out
              have d3' := (hbc2 _ _ hb).trans D3.out
              clear hr2 e2 e4 d0 d1 d3
              have hky : ks[m] = .mk yk yn ye ys ykids := by rw [hmm, ← hy]; subst hrm; rfl
              have HY := Lib.hid hky
              have hj1 : (0 : Int) ≤ r := by omega
              have hj3 : (r : Int) < xs.length := by omega
              have hj5 : (r : Int) < k := by omega
              have hm5 : m < j := by omega
              have hr5 : r + 2 < k + 3 := by omega
              clear hbc2 hmm hy hky hrm hkj
              by_cases heq : yk = xk ∧ yn = xn ∧ ys = xs'
              · obtain ⟨rfl, rfl, rfl⟩ := heq
                have HF : Hid (pairsOk xs = false) := by
                  show _ = _; unfold pairsOk; rw [HKS.out, uniq_bad2 hjk (by
                    rw [HX.out]
                    refine List.mem_map.2 ⟨ks[m], List.mem_take_iff_getElem.2 ⟨m, by omega, rfl⟩, by rw [HY.out]; rfl⟩)]; rfl
                have g1 : (yk == yk) = true := by simp
                have g2 : (yn == yn) = true := by simp
                go_wp2
                go_quiet (fail)
                go_wp2
                go_ret
                exact ⟨by rw [← HOK.out, HF.out]; rfl, by first | exact hbel2 | exact hbel2.drew | exact below_drewN hbel2 _⟩
              · have HM : Hid ((V.mk xk xn xe xs' xkids).mark ∉ (ks.take (m + 1)).map V.mark) := by
                  show _ ∉ _
                  rw [marks_snoc _ _ _ hmk, List.mem_append, HY.out]
                  rintro (h | h)
                  · exact HNI.out h
                  · simp only [List.mem_singleton, V.mark, V.kind, V.num, V.text, Prod.mk.injEq] at h
                    exact heq ⟨h.1.symm, h.2.1.symm, h.2.2.symm⟩
                by_cases h1 : yk = xk
                · subst h1
                  have g1 : (yk == yk) = true := by simp
                  by_cases h2 : yn = xn
                  · subst h2
                    have g2 : (yn == yn) = true := by simp
                    have h3 : ¬ ys = xs' := fun e => heq ⟨rfl, rfl, e⟩
                    have g3 : (ys == xs') = false := by simpa using h3
                    clear heq h3
                    go_wp2
                    go_quiet (fail)
                    go_wp2
                    go_roundw
                    case rel => exact ⟨m + 1, r + 2, by have := HRM.out; omega, by omega, by go_num, HM.out, by first | exact hbel2 | exact hbel2.drew | exact below_drewN hbel2 _⟩
                    case measure => simp [intOf]; omega
                  · have g2 : (yn == xn) = false := by simpa using h2
                    clear heq h2
                    go_wp2
                    go_quiet (fail)
                    go_wp2
                    go_roundw
                    case rel => exact ⟨m + 1, r + 2, by have := HRM.out; omega, by omega, by go_num, HM.out, by first | exact hbel2 | exact hbel2.drew | exact below_drewN hbel2 _⟩
                    case measure => simp [intOf]; omega
                · have g1 : (yk == xk) = false := by simpa using h1
                  clear heq h1
                  go_wp2
                  go_quiet (fail)
                  go_wp2
                  go_roundw
                  case rel => exact ⟨m + 1, r + 2, by have := HRM.out; omega, by omega, by go_num, HM.out, by first | exact hbel2 | exact hbel2.drew | exact below_drewN hbel2 _⟩
                  case measure => simp [intOf]; omega
            · obtain rfl : m = j := by omega
              have HM : Hid (uniq V.mark (ks.take (m + 1)) = true) := uniq_more hjk HU.out (by rw [HX.out]; exact HK.out) (by rw [HX.out]; exact HNI.out)
              clear hrm hkj
              go_wp2
              go_roundw
              case rel => exact ⟨m + 1, k + 2, by have := HKJ.out; omega, by omega, by go_num, HM.out, hbel2⟩
              case measure => simp [intOf]; omega
        · go_wp2
          go_loopw [4] (fun i wr => ∃ (m r : Nat), r = 2 * m ∧ m ≤ j ∧ i = .int .i64 r ∧ (V.mk xk xn xe xs' xkids).mark ∉ (ks.take m).map V.mark ∧ Below w.heap.size w wr) (fun i _ => k + 1 - (intOf i).toNat)
          case atStart => exact ⟨0, 0, rfl, Nat.zero_le _, rfl, by simp, hbel⟩
          case round =>
            obtain ⟨m, r, hrm, hm, rfl, hni, hbel2⟩ := hrel
            have HRM := Lib.hid hrm
            have HNI := Lib.hid hni; clear hni
            have hkj := HKJ.out
            by_cases hml : r < k
            · have hmk : m < ks.length := by omega
              have hmm := HKG.out m (by omega) hmk
              obtain ⟨u0, u1, u2, u3, u4, hr2, e0, e1, e2, e3, e4⟩ := HC.out r (by omega)
              obtain ⟨yk, yn, ye, ys, ykids, y5, hy, hcs2, _⟩ := V.lay hr2
              simp only [List.cons.injEq, and_true] at hcs2
              obtain ⟨rfl, rfl, rfl, rfl, rfl⟩ := hcs2
              have hbc2 := (bcell hbel2).1
              rw [← hbc2 _ _ hb] at e0 e1 e3
              have d0' := (hbc2 _ _ hb).trans D0.out
              have d1' := (hbc2 _ _ hb).trans D1.out
              have d3' := (hbc2 _ _ hb).trans D3.out
              clear hr2 e2 e4 d0 d1 d3
              have hky : ks[m] = .mk yk yn ye ys ykids := by rw [hmm, ← hy]; subst hrm; rfl
              have HY := Lib.hid hky
              have hj1 : (0 : Int) ≤ r := by omega
              have hj3 : (r : Int) < xs.length := by omega
              have hj5 : (r : Int) < k := by omega
              have hm5 : m < j := by omega
              have hr5 : r + 2 < k + 3 := by omega
              clear hbc2 hmm hy hky hrm hkj
              by_cases heq : yk = xk ∧ yn = xn ∧ ys = xs'
              · obtain ⟨rfl, rfl, rfl⟩ := heq
                have HF : Hid (pairsOk xs = false) := by
                  show _ = _; unfold pairsOk; rw [HKS.out, uniq_bad2 hjk (by
                    rw [HX.out]
                    refine List.mem_map.2 ⟨ks[m], List.mem_take_iff_getElem.2 ⟨m, by omega, rfl⟩, by rw [HY.out]; rfl⟩)]; rfl
                have g1 : (yk == yk) = true := by simp
                have g2 : (yn == yn) = true := by simp
                go_wp2
                go_quiet (fail)
                go_wp2
                go_ret
                exact ⟨by rw [← HOK.out, HF.out]; rfl, by first | exact hbel2 | exact hbel2.drew | exact below_drewN hbel2 _⟩
              · have HM : Hid ((V.mk xk xn xe xs' xkids).mark ∉ (ks.take (m + 1)).map V.mark) := by
                  show _ ∉ _
                  rw [marks_snoc _ _ _ hmk, List.mem_append, HY.out]
                  rintro (h | h)
                  · exact HNI.out h
                  · simp only [List.mem_singleton, V.mark, V.kind, V.num, V.text, Prod.mk.injEq] at h
                    exact heq ⟨h.1.symm, h.2.1.symm, h.2.2.symm⟩
                by_cases h1 : yk = xk
                · subst h1
                  have g1 : (yk == yk) = true := by simp
                  by_cases h2 : yn = xn
                  · subst h2
                    have g2 : (yn == yn) = true := by simp
                    have h3 : ¬ ys = xs' := fun e => heq ⟨rfl, rfl, e⟩
                    have g3 : (ys == xs') = false := by simpa using h3
                    clear heq h3
                    go_wp2
                    go_quiet (fail)
                    go_wp2
                    go_roundw
                    case rel => exact ⟨m + 1, r + 2, by have := HRM.out; omega, by omega, by go_num, HM.out, by first | exact hbel2 | exact hbel2.drew | exact below_drewN hbel2 _⟩
                    case measure => simp [intOf]; omega
                  · have g2 : (yn == xn) = false := by simpa using h2
                    clear heq h2
                    go_wp2
                    go_quiet (fail)
                    go_wp2
                    go_roundw
                    case rel => exact ⟨m + 1, r + 2, by have := HRM.out; omega, by omega, by go_num, HM.out, by first | exact hbel2 | exact hbel2.drew | exact below_drewN hbel2 _⟩
                    case measure => simp [intOf]; omega
                · have g1 : (yk == xk) = false := by simpa using h1
                  clear heq h1
                  go_wp2
                  go_quiet (fail)
                  go_wp2
                  go_roundw
                  case rel => exact ⟨m + 1, r + 2, by have := HRM.out; omega, by omega, by go_num, HM.out, by first | exact hbel2 | exact hbel2.drew | exact below_drewN hbel2 _⟩
                  case measure => simp [intOf]; omega
            · obtain rfl : m = j := by omega
              have HM : Hid (uniq V.mark (ks.take (m + 1)) = true) := uniq_more hjk HU.out (by rw [HX.out]; exact HK.out) (by rw [HX.out]; exact HNI.out)
              clear hrm hkj
              go_wp2
              go_roundw
              case rel => exact ⟨m + 1, k + 2, by have := HKJ.out; omega, by omega, by go_num, HM.out, hbel2⟩
              case measure => simp [intOf]; omega
      · have hk5 : (xk != 5) = true := by simp [isKeyK] at hkey ⊢; omega
        have hk3 : (xk != 3) = true := by simp [isKeyK] at hkey ⊢; omega
        have HF : Hid (pairsOk xs = false) := by
          show _ = _; unfold pairsOk; rw [HKS.out, uniq_bad1 hjk (by rw [HX.out]; simpa [V.kind] using hkey)]; rfl
        clear hkey
        go_wp2
        go_ret
        exact ⟨by rw [← HOK.out, HF.out]; rfl, hbel⟩
    · obtain rfl : j = ks.length := by omega
      clear hkj
      have h1 := HU.out
      rw [List.take_length] at h1
      have HF : Hid (pairsOk xs = (decide (xs.length % 2 = 0) && decide (xs.length ≤ 300))) := by
        show _ = _; unfold pairsOk; rw [HKS.out, h1]; rfl
      clear h1
      by_cases he : xs.length % 2 = 0
      · have he' : ((xs.length : Int) % 2 == 0) = true := by simp; omega
        rw [decide_eq_true he] at HF
        clear he
        go_wp2
        go_ret
        exact ⟨by rw [← HOK.out, HF.out]; go_num, hbel⟩
      · have he' : ((xs.length : Int) % 2 == 0) = false := by simp; omega
        rw [decide_eq_false he] at HF
        clear he
        go_wp2
        go_ret
        exact ⟨by rw [← HOK.out, HF.out]; rfl, hbel⟩
end Go.Proofs.YtpknmldpdoadgaaDoor

/- When a value is right but for its kids: the reference's l02Own. -/
namespace Go.Proofs.YtpknmldpdoadgaaDoor
open Go.RowKit
open Go.Lib (validD)

theorem isE (s : List UInt8) : s.isEmpty = decide (s = []) := by cases s <;> simp
theorem len0 (l : List V) : ((l.length : Int) == 0) = decide (l = []) := by
  cases l with
  | nil => rfl
  | cons a r => simp; omega
theorem len1 (l : List V) : ((l.length : Int) == 1) = decide (l.length = 1) := by rw [Bool.eq_iff_iff]; simp; omega

set_option maxHeartbeats 400000 in
theorem l02Whole_int (n e : Int) (w : World) (hn : i64ok n) (he : -1000 ≤ e ∧ e ≤ 1000) :
    Calls Tryd.prog 89 #[.int .i64 n, .int .i64 e] w fun r w' => r = .returned (.bool (decide (0 < e) && fitsN e.toNat n)) ∧ w = w' := by
  by_cases h : 0 < e
  · obtain ⟨k, rfl⟩ : ∃ k : Nat, e = k := ⟨e.toNat, by omega⟩
    refine (l02Whole_any n k w hn (by omega)).mono ?_
    rintro r w' ⟨rfl, rfl⟩
    exact ⟨ret_bool (by rw [decide_eq_true (show 0 < k by omega), decide_eq_true h]; rfl), rfl⟩
  · have H := Lib.hid (show (decide (0 < e) && fitsN e.toNat n) = false by rw [decide_eq_false h]; rfl)
    have h2 : ¬ (0 : Int) < e := h
    go_enter Tryd.func89, Tryd.ntmps89
    go_wp2
    go_loopw [5] (fun i wr => i = .int .i64 0 ∧ w = wr) (fun _ _ => 0)
    case atStart => exact ⟨rfl, rfl⟩
    case round =>
      obtain ⟨rfl, rfl⟩ := hrel
      go_wp2
      go_ret
      exact ⟨by rw [H.out]; simp <;> omega, rfl⟩

set_option maxHeartbeats 4000000 in
set_option maxRecDepth 10000 in
theorem l02Own_any (x : V) (cs : List Value) (w : World) (h : Rd w x.d cs) (hwf : x.wf) (hbk : x.bulk ≤ 4294967295) :
    Calls Tryd.prog 75 #[.agg cs.toArray] w fun e w' => e = .returned (.bool x.self) ∧ Below w.heap.size w w' := by
  obtain ⟨k, n, e, s, kids, v1, rfl, rfl, hkids⟩ := V.lay h
  have hP := Lib.hid (fun w1 (hb : Below w.heap.size w w1) => l02Pairs_any kids v1 w1 (hkids.below hb) (by simp only [V.bulk] at hbk; omega))
  obtain ⟨a1, c1, rfl⟩ := Rd.sl_form hkids
  rw [V.ds_map, List.length_map] at hP ⊢
  have hsl : s.length ≤ 4294967295 := by simp only [V.bulk] at hbk; omega
  have hkl : kids.length ≤ 4294967295 := by simp only [V.bulk] at hbk; omega
  obtain ⟨hk, hn, he, _, _, _⟩ := hwf
  obtain ⟨ok, hok⟩ : ∃ ok, V.self (.mk k n e s kids) = ok := ⟨_, rfl⟩
  rw [hok]
  have hA := (Below.refl w.heap.size w).alloc (Nat.le_refl _) (.cells #[.int .i64 k, .int .i64 n, .int .i64 e, .string ⟨s.toArray⟩, .slice a1 kids.length c1] 42)
  clear h hkids hbk
  have HOK := Lib.hid hok; clear hok
  have HA := Lib.hid hA; clear hA; have hW0 := Lib.hid hn; clear hW0
  by_cases q7 : k = 7
  · subst q7
    go_enter Tryd.func75, Tryd.ntmps75
    go_wp2
    go_quiet (fail)
    go_wp2
    all_goals (go_ret; refine ⟨ret_bool ?_, by first | exact below_drewN ((Below.refl _ _).alloc (Nat.le_refl _) _) _ | exact below2 (below_drewN ((Below.refl _ _).alloc (Nat.le_refl _) _) _) (by assumption) (by first | exact Nat.le_refl _ | simp)⟩; rw [← HOK.out]; simp_all [V.self, V.selfBy, isE, len0, len1] <;> (intros; omega))
  by_cases q0 : k = 0
  · subst q0
    go_enter Tryd.func75, Tryd.ntmps75
    go_wp2
    go_quiet (fail)
    go_wp2
    all_goals (go_ret; refine ⟨ret_bool ?_, by first | exact below_drewN ((Below.refl _ _).alloc (Nat.le_refl _) _) _ | exact below2 (below_drewN ((Below.refl _ _).alloc (Nat.le_refl _) _) _) (by assumption) (by first | exact Nat.le_refl _ | simp)⟩; rw [← HOK.out]; simp_all [V.self, V.selfBy, isE, len0, len1] <;> (intros; omega))
  by_cases q1 : k = 1
  · subst q1
    go_enter Tryd.func75, Tryd.ntmps75
    go_wp2
    go_quiet (fail)
    go_wp2
    all_goals (go_ret; refine ⟨ret_bool ?_, by first | exact below_drewN ((Below.refl _ _).alloc (Nat.le_refl _) _) _ | exact below2 (below_drewN ((Below.refl _ _).alloc (Nat.le_refl _) _) _) (by assumption) (by first | exact Nat.le_refl _ | simp)⟩; rw [← HOK.out]; simp_all [V.self, V.selfBy, isE, len0, len1] <;> (intros; omega))
  by_cases q2 : k = 2
  · subst q2
    go_enter Tryd.func75, Tryd.ntmps75
    go_wp2
    go_quiet (fail)
    go_wp2
    all_goals (go_ret; refine ⟨ret_bool ?_, by first | exact below_drewN ((Below.refl _ _).alloc (Nat.le_refl _) _) _ | exact below2 (below_drewN ((Below.refl _ _).alloc (Nat.le_refl _) _) _) (by assumption) (by first | exact Nat.le_refl _ | simp)⟩; rw [← HOK.out]; simp_all [V.self, V.selfBy, isE, len0, len1] <;> (intros; omega))
  by_cases q3 : k = 3
  · subst q3
    go_enter Tryd.func75, Tryd.ntmps75
    go_wp2
    go_quiet (fail)
    go_wp2
    all_goals (go_ret; refine ⟨ret_bool ?_, by first | exact below_drewN ((Below.refl _ _).alloc (Nat.le_refl _) _) _ | exact below2 (below_drewN ((Below.refl _ _).alloc (Nat.le_refl _) _) _) (by assumption) (by first | exact Nat.le_refl _ | simp)⟩; rw [← HOK.out]; simp_all [V.self, V.selfBy, isE, len0, len1] <;> (intros; omega))
  by_cases q6 : k = 6
  · subst q6
    by_cases hs2 : s.length ≤ 2000
    · skip
      go_enter Tryd.func75, Tryd.ntmps75
      go_wp2
      go_quiet (fail)
      go_wp2
      all_goals (go_ret; refine ⟨ret_bool ?_, by first | exact below_drewN ((Below.refl _ _).alloc (Nat.le_refl _) _) _ | exact below2 (below_drewN ((Below.refl _ _).alloc (Nat.le_refl _) _) _) (by assumption) (by first | exact Nat.le_refl _ | simp)⟩; rw [← HOK.out]; simp_all [V.self, V.selfBy, isE, len0, len1] <;> (intros; omega))
    · skip
      go_enter Tryd.func75, Tryd.ntmps75
      go_wp2
      go_quiet (fail)
      go_wp2
      all_goals (go_ret; refine ⟨ret_bool ?_, by first | exact below_drewN ((Below.refl _ _).alloc (Nat.le_refl _) _) _ | exact below2 (below_drewN ((Below.refl _ _).alloc (Nat.le_refl _) _) _) (by assumption) (by first | exact Nat.le_refl _ | simp)⟩; rw [← HOK.out]; simp_all [V.self, V.selfBy, isE, len0, len1] <;> (intros; omega))
  by_cases q5 : k = 5
  · subst q5
    by_cases hs2 : s.length ≤ 2000
    · skip
      go_enter Tryd.func75, Tryd.ntmps75
      go_wp2
      go_quiet (fail)
      go_wp2_with (go_at_call 90; refine (textOk_spec s _ hsl).mono ?_; rintro e1 w1 ⟨rfl, hb1⟩; have f3 : w1.cell? ⟨w.heap.size, 3, none⟩ = some (.string ⟨s.toArray⟩) := (by rw [(bcell hb1).1 _ _ (by simp)]; simp [go_sem]); have f4 : w1.cell? ⟨w.heap.size, 4, none⟩ = some (.slice a1 kids.length c1) := (by rw [(bcell hb1).1 _ _ (by simp)]; simp [go_sem]))
      all_goals (go_ret; refine ⟨ret_bool ?_, by first | exact below_drewN ((Below.refl _ _).alloc (Nat.le_refl _) _) _ | exact below2 (below_drewN ((Below.refl _ _).alloc (Nat.le_refl _) _) _) (by assumption) (by first | exact Nat.le_refl _ | simp)⟩; rw [← HOK.out]; simp_all [V.self, V.selfBy, isE, len0, len1] <;> (intros; omega))
    · skip
      go_enter Tryd.func75, Tryd.ntmps75
      go_wp2
      go_quiet (fail)
      go_wp2_with (go_at_call 90; refine (textOk_spec s _ hsl).mono ?_; rintro e1 w1 ⟨rfl, hb1⟩; have f3 : w1.cell? ⟨w.heap.size, 3, none⟩ = some (.string ⟨s.toArray⟩) := (by rw [(bcell hb1).1 _ _ (by simp)]; simp [go_sem]); have f4 : w1.cell? ⟨w.heap.size, 4, none⟩ = some (.slice a1 kids.length c1) := (by rw [(bcell hb1).1 _ _ (by simp)]; simp [go_sem]))
      all_goals (go_ret; refine ⟨ret_bool ?_, by first | exact below_drewN ((Below.refl _ _).alloc (Nat.le_refl _) _) _ | exact below2 (below_drewN ((Below.refl _ _).alloc (Nat.le_refl _) _) _) (by assumption) (by first | exact Nat.le_refl _ | simp)⟩; rw [← HOK.out]; simp_all [V.self, V.selfBy, isE, len0, len1] <;> (intros; omega))
  by_cases q8 : k = 8
  · subst q8
    go_enter Tryd.func75, Tryd.ntmps75
    go_wp2
    go_quiet (fail)
    go_wp2_with (go_at_call 91; refine (hP.out _ (below_drewN ((Below.refl _ _).alloc (Nat.le_refl _) _) _)).mono ?_; rintro e1 w1 ⟨rfl, hb1⟩)
    all_goals (go_ret; refine ⟨ret_bool ?_, by first | exact below_drewN ((Below.refl _ _).alloc (Nat.le_refl _) _) _ | exact below2 (below_drewN ((Below.refl _ _).alloc (Nat.le_refl _) _) _) (by assumption) (by first | exact Nat.le_refl _ | simp)⟩; rw [← HOK.out]; simp_all [V.self, V.selfBy, isE, len0, len1] <;> (intros; omega))
  by_cases q9 : k = 9
  · subst q9
    go_enter Tryd.func75, Tryd.ntmps75
    go_wp2
    go_quiet (fail)
    go_wp2_with (go_at_call 88; refine (l01In_any _ _ _ _).mono ?_; rintro e1 w1 ⟨rfl, rfl⟩)
    all_goals (go_ret; refine ⟨ret_bool ?_, by first | exact below_drewN ((Below.refl _ _).alloc (Nat.le_refl _) _) _ | exact below2 (below_drewN ((Below.refl _ _).alloc (Nat.le_refl _) _) _) (by assumption) (by first | exact Nat.le_refl _ | simp)⟩; rw [← HOK.out]; simp_all [V.self, V.selfBy, isE, len0, len1] <;> (intros; omega))
  by_cases q4 : k = 4
  · subst q4
    by_cases g1 : Int.tmod n 10 = 0
    · have g1' : (Int.tmod n 10 != 0) = false := by simpa using g1
      have H := Lib.hid (show ok = false by rw [← HOK.out]; simp [V.self, V.selfBy, decOk, g1])
      go_enter Tryd.func75, Tryd.ntmps75
      go_wp2
      go_quiet (fail)
      go_wp2
      go_ret
      exact ⟨by rw [H.out]; rfl, below_drewN ((Below.refl _ _).alloc (Nat.le_refl _) _) _⟩
    · have g1' : (Int.tmod n 10 != 0) = true := by simpa using g1
      by_cases g2 : -20 ≤ e ∧ e ≤ 20
      · by_cases g3 : e = 0
        · subst g3
          have H := Lib.hid (show ok = false by rw [← HOK.out]; simp [V.self, V.selfBy, decOk])
          go_enter Tryd.func75, Tryd.ntmps75
          go_wp2
          go_quiet (fail)
          go_wp2_with (go_at_call 88; refine (l01In_any _ _ _ _).mono ?_; rintro e1 w1 ⟨rfl, rfl⟩)
          all_goals (go_ret; exact ⟨by rw [H.out]; rfl, below_drewN ((Below.refl _ _).alloc (Nat.le_refl _) _) _⟩)
        · have g3' : (e == 0) = false := by simpa using g3
          by_cases g4 : -999999999999999999 ≤ n ∧ n ≤ 999999999999999999
          · by_cases g5 : s = []
            · subst g5
              by_cases g6 : kids = []
              · subst g6
                have H := Lib.hid (show ok = !(decide (0 < e) && fitsN e.toNat n) by rw [← HOK.out]; simp [V.self, V.selfBy, decOk, inR_yes g2, inR_yes g4, g1, g3])
                go_enter Tryd.func75, Tryd.ntmps75
                go_wp2
                go_quiet (fail)
                go_wp2_with (first | (go_at_call 88; refine (l01In_any _ _ _ _).mono ?_; rintro e1 w1 ⟨rfl, rfl⟩; first | rw [inR_yes g2] | rw [inR_yes g4]) | (go_at_call 89; refine (l02Whole_int n e _ hn (by omega)).mono ?_; rintro e1 w1 ⟨rfl, rfl⟩))
                go_ret
                exact ⟨by rw [H.out]; simp, below_drewN ((Below.refl _ _).alloc (Nat.le_refl _) _) _⟩
              · have H := Lib.hid (show ok = false by rw [← HOK.out]; simp [V.self, V.selfBy, g6])
                have g6' : ((kids.length : Int) == 0) = false := by rw [len0, decide_eq_false g6]
                go_enter Tryd.func75, Tryd.ntmps75
                go_wp2
                go_quiet (fail)
                go_wp2_with (first | (go_at_call 88; refine (l01In_any _ _ _ _).mono ?_; rintro e1 w1 ⟨rfl, rfl⟩; first | rw [inR_yes g2] | rw [inR_yes g4]))
                go_ret
                exact ⟨by rw [H.out]; rfl, below_drewN ((Below.refl _ _).alloc (Nat.le_refl _) _) _⟩
            · have H := Lib.hid (show ok = false by rw [← HOK.out]; simp [V.self, V.selfBy, g5])
              have g5' : s.isEmpty = false := by rw [isE, decide_eq_false g5]
              go_enter Tryd.func75, Tryd.ntmps75
              go_wp2
              go_quiet (fail)
              go_wp2_with (first | (go_at_call 88; refine (l01In_any _ _ _ _).mono ?_; rintro e1 w1 ⟨rfl, rfl⟩; first | rw [inR_yes g2] | rw [inR_yes g4]))
              go_ret
              exact ⟨by rw [H.out]; rfl, below_drewN ((Below.refl _ _).alloc (Nat.le_refl _) _) _⟩
          · have H := Lib.hid (show ok = false by rw [← HOK.out]; simp [V.self, V.selfBy, decOk, inR_no g4])
            go_enter Tryd.func75, Tryd.ntmps75
            go_wp2
            go_quiet (fail)
            go_wp2_with (first | (go_at_call 88; refine (l01In_any _ _ _ _).mono ?_; rintro e1 w1 ⟨rfl, rfl⟩; first | rw [inR_no g4] | rw [inR_yes g2]))
            go_ret
            exact ⟨by rw [H.out]; rfl, below_drewN ((Below.refl _ _).alloc (Nat.le_refl _) _) _⟩
      · have H := Lib.hid (show ok = false by rw [← HOK.out]; simp [V.self, V.selfBy, decOk, inR_no g2])
        have H2 := Lib.hid (inR_no g2)
        go_enter Tryd.func75, Tryd.ntmps75
        go_wp2
        go_quiet (fail)
        go_wp2_with (go_at_call 88; refine (l01In_any _ _ _ _).mono ?_; rintro e1 w1 ⟨rfl, rfl⟩; try rw [H2.out])
        all_goals (go_ret; exact ⟨by rw [H.out]; rfl, below_drewN ((Below.refl _ _).alloc (Nat.le_refl _) _) _⟩)
  have H := Lib.hid (show ok = false by rw [← HOK.out]; simp [V.self, V.selfBy, q0, q1, q2, q3, q4, q5, q6, q7, q8, q9])
  go_enter Tryd.func75, Tryd.ntmps75
  go_wp2
  go_quiet (fail)
  go_wp2
  all_goals (go_ret; exact ⟨by rw [H.out]; rfl, below_drewN ((Below.refl _ _).alloc (Nat.le_refl _) _) _⟩)
end Go.Proofs.YtpknmldpdoadgaaDoor

/- When a value is right: the reference's l02Right, Nodes and ValueOk. -/
namespace Go.Proofs.YtpknmldpdoadgaaDoor
open Go.RowKit

def VRtA (n : Nat) : Prop := ∀ (x : V) (cs : List Value) (d : Int) (w : World), x.nodes ≤ n → Rd w x.d cs → x.wf → x.bulk ≤ 4294967295 → -1000 ≤ d → d ≤ 1000 →
  Calls Tryd.prog 53 #[.agg cs.toArray, .int .i64 d] w fun e w' => e = .returned (.bool (V.rightBy pairsOk d x)) ∧ Below w.heap.size w w'

theorem V.rights_false {q : List V → Bool} {d : Int} {xs : List V} (k : Nat) (hk : k < xs.length) (h : V.rightBy q d xs[k] = false) : V.rightsBy q d xs = false := by
  rw [V.rightsBy_all]; apply Bool.eq_false_iff.2; intro hh
  rw [List.all_eq_true] at hh
  have := hh xs[k] (List.getElem_mem hk); rw [h] at this; cases this
theorem V.rights_snoc {q : List V → Bool} {d : Int} {xs : List V} (k : Nat) (hk : k < xs.length) (h : V.rightsBy q d (xs.take k) = true) (h2 : V.rightBy q d xs[k] = true) : V.rightsBy q d (xs.take (k + 1)) = true := by
  rw [List.take_succ_eq_append_getElem hk, V.rightsBy_all, List.all_append]; rw [V.rightsBy_all] at h; rw [h]; simp [h2]
theorem V.nodes_split (xs : List V) (k : Nat) (hk : k < xs.length) : V.nodess (xs.take (k + 1)) = V.nodess (xs.take k) + xs[k].nodes := by
  rw [List.take_succ_eq_append_getElem hk]
  have hn : ∀ (ls : List V) (x : V), V.nodess (ls ++ [x]) = V.nodess ls + x.nodes := by
    intro ls x; induction ls with
    | nil => simp [V.nodess]
    | cons a ls ih => simp only [List.cons_append, V.nodess, ih]; omega
  exact hn _ _
theorem V.nodess_take : ∀ (xs : List V) (k : Nat), V.nodess (xs.take k) ≤ V.nodess xs
  | [], k => by simp [V.nodess]
  | x :: xs, 0 => by simp [V.nodess]
  | x :: xs, k + 1 => by have := V.nodess_take xs k; simp only [List.take_succ_cons, V.nodess]; omega
mutual
theorem V.nodes_bulk : ∀ x : V, x.nodes ≤ x.bulk + 1
  | .mk _ _ _ s kids => by have := V.nodess_bulks kids; simp only [V.nodes, V.bulk]; omega
theorem V.nodess_bulks : ∀ xs : List V, V.nodess xs ≤ xs.length + V.bulks xs
  | [] => by simp [V.nodess]
  | x :: xs => by have := V.nodes_bulk x; have := V.nodess_bulks xs; simp only [V.nodess, V.bulks, List.length_cons]; omega
end

theorem V.bulk_get' {ls : List V} {m : Nat} (h : ls.length + V.bulks ls ≤ m) (k : Nat) (hk : k < ls.length) : ls[k].bulk ≤ m := by
  have h1 := V.bulks_snoc ls k hk; have h2 := V.bulks_take ls (k + 1); omega

set_option maxHeartbeats 2000000 in
set_option maxRecDepth 10000 in
theorem VRtA_of {n : Nat} (hA : VRtA n) : VRtA (n + 1) := by
  intro x cs d w hn h hwf hbk hd1 hd2
  have HO := Lib.hid (fun w1 (hb : Below w.heap.size w w1) => l02Own_any x cs w1 (h.below hb) hwf hbk)
  obtain ⟨k, m, e, s, kids, v1, rfl, rfl, hkids⟩ := V.lay h
  have hnk : V.nodess kids ≤ n := by simp only [V.nodes] at hn; omega
  have hkw : V.wfs kids := hwf.2.2.2.2.2
  have hkb : kids.length + V.bulks kids ≤ 4294967295 := by simp only [V.bulk] at hbk; omega
  obtain ⟨a2, c2, rfl, hg⟩ := hkids.values
  obtain ⟨ok, hok⟩ : ∃ ok, V.rightBy pairsOk d (.mk k m e s kids) = ok := ⟨_, rfl⟩
  rw [hok]
  have HOK := Lib.hid hok; clear hok
  obtain ⟨W0, hW0⟩ : ∃ W0, W0 = w.alloc (.cells #[.int .i64 k, .int .i64 m, .int .i64 e, .string ⟨s.toArray⟩, .slice a2 kids.length c2] 42) := ⟨_, rfl⟩
  have HW := Lib.hid hW0
  have hA0 : Below w.heap.size w W0 := by rw [hW0]; exact (Below.refl _ _).alloc (Nat.le_refl _) _
  have hz : w.heap.size < W0.heap.size := by rw [hW0]; simp
  have KB : Hid (∀ W, Below W0.heap.size W0 W → W.cell? ⟨w.heap.size, 0, none⟩ = some (.int .i64 k) ∧ W.cell? ⟨w.heap.size, 1, none⟩ = some (.int .i64 m) ∧ W.cell? ⟨w.heap.size, 2, none⟩ = some (.int .i64 e) ∧ W.cell? ⟨w.heap.size, 3, none⟩ = some (.string ⟨s.toArray⟩) ∧ W.cell? ⟨w.heap.size, 4, none⟩ = some (.slice a2 kids.length c2)) := by
    intro W hb
    obtain ⟨hc, _⟩ := bcell hb
    simp only [hc _ _ hz]; subst hW0; simp
  clear hW0 h hkids hwf hbk
  obtain ⟨f0, f1, f2, f3, f4⟩ := KB.out _ (Below.refl _ _)
  by_cases hd0 : d < 0
  · have HF := Lib.hid (show ok = false by rw [← HOK.out]; simp only [V.rightBy]; rw [decide_eq_false (show ¬ 0 ≤ d by omega)]; simp)
    go_enter Tryd.func53, Tryd.ntmps53
    go_wp2
    rw [← HW.out]
    go_ret
    exact ⟨by rw [HF.out]; rfl, hA0⟩
  have D0 := Lib.hid (decide_eq_true (show 0 ≤ d by omega))
  cases hs : V.self (.mk k m e s kids) with
  | false =>
    have HS := Lib.hid hs
    have HF := Lib.hid (show ok = false by rw [← HOK.out]; simp only [V.rightBy]; rw [show V.selfBy pairsOk (.mk k m e s kids) = false from hs]; simp)
    clear hs
    go_enter Tryd.func53, Tryd.ntmps53
    go_wp2_with (go_at_call 75; rw [← HW.out]; refine (HO.out _ hA0).mono ?_; rw [HS.out]; rintro e w1 ⟨rfl, hb1⟩)
    go_ret
    exact ⟨by rw [HF.out]; rfl, below2 hA0 hb1 (Nat.le_refl _)⟩
  | true =>
  have HS := Lib.hid hs
  have HF0 := Lib.hid (show ok = V.rightsBy pairsOk (d - 1) kids by rw [← HOK.out]; simp only [V.rightBy]; rw [show V.selfBy pairsOk (.mk k m e s kids) = true from hs, D0.out]; simp)
  clear hs
  go_enter Tryd.func53, Tryd.ntmps53
  go_wp2_with (go_at_call 75; rw [← HW.out]; refine (HO.out _ hA0).mono ?_; rw [HS.out]; rintro e w1 ⟨rfl, hb1⟩)
  go_loopw [5] (fun i wr => ∃ (j : Nat), j ≤ kids.length ∧ i = .int .i64 j ∧ V.rightsBy pairsOk (d - 1) (kids.take j) = true ∧ Below W0.heap.size W0 wr) (fun i _ => kids.length - (intOf i).toNat)
  case atStart => exact ⟨0, Nat.zero_le _, rfl, by simp [V.rightsBy], hb1⟩
  case round =>
    obtain ⟨j, hj, rfl, hr, hbel⟩ := hrel
    have HR := Lib.hid hr; clear hr f0 f1 f2 f3 f4
    obtain ⟨f0, f1, f2, f3, f4⟩ := KB.out _ hbel
    have hbw := below2 hA0 hbel (Nat.le_refl _)
    by_cases hlt : j < kids.length
    · obtain ⟨_, _, b, o, rfl, hb, hcell⟩ := hg (by intro e; rw [e] at hlt; simp at hlt)
      obtain ⟨v0, v1, v2, v3, v4, hr, d0, d1, d2, d3, d4⟩ := hcell j hlt
      clear hcell hg
      obtain ⟨k1, k2, k3, s4, a6, n6, m6, hcs⟩ := V.form hr
      simp only [List.cons.injEq, and_true] at hcs
      obtain ⟨rfl, rfl, rfl, rfl, rfl⟩ := hcs
      have hbc := (bcell hbw).1
      rw [← hbc _ _ hb] at d0 d1 d2 d3 d4
      clear hbc
      have hi1 : (0 : Int) ≤ j := by omega
      have hi3 : (j : Int) < kids.length := by omega
      have hn1 := V.nodes_get kids j hlt
      have HC := Lib.hid (hA kids[j] _ (d - 1) wr (Nat.le_trans hn1 hnk) (hr.below hbw) (V.wfs_get hkw j hlt) (V.bulk_get' hkb j hlt) (by omega) (by omega))
      cases hv : V.rightBy pairsOk (d - 1) kids[j] with
      | true =>
        have HV := Lib.hid hv
        have HS2 := Lib.hid (V.rights_snoc j hlt HR.out hv)
        clear hv
        go_wp2_with (go_at_call 53; refine HC.out.mono ?_; rw [HV.out]; rintro e w2 ⟨rfl, hb2⟩)
        go_roundw
        case rel => exact ⟨j + 1, by omega, by go_num, HS2.out, below2 hbel hb2 (Nat.le_refl _)⟩
        case measure => simp [intOf]; omega
      | false =>
        have HV := Lib.hid hv
        have HF := Lib.hid (show ok = false by rw [HF0.out]; exact V.rights_false j hlt hv)
        clear hv
        go_wp2_with (go_at_call 53; refine HC.out.mono ?_; rw [HV.out]; rintro e w2 ⟨rfl, hb2⟩)
        go_ret
        exact ⟨by rw [HF.out]; rfl, below2 hbw hb2 (Nat.le_refl _)⟩
    · obtain rfl : j = kids.length := by omega
      have h1 := HR.out
      rw [List.take_length] at h1
      have HF := Lib.hid (show ok = true by rw [HF0.out]; exact h1)
      clear h1
      go_wp2
      go_ret
      exact ⟨by rw [HF.out]; rfl, hbw⟩
theorem VRt_all : ∀ n, VRtA n
  | 0 => fun x cs d w hn => absurd x.nodes_pos (by omega)
  | n + 1 => VRtA_of (VRt_all n)

def VMnA (n : Nat) : Prop := ∀ (x : V) (cs : List Value) (w : World), x.nodes ≤ n → Rd w x.d cs → x.bulk ≤ 4294967295 →
  Calls Tryd.prog 54 #[.agg cs.toArray] w fun e w' => e = .returned (.int .i64 (x.nodes : Nat)) ∧ Below w.heap.size w w'
set_option maxHeartbeats 2000000 in
set_option maxRecDepth 10000 in
theorem VMnA_of {n : Nat} (hA : VMnA n) : VMnA (n + 1) := by
  intro x cs w hn h hbk
  obtain ⟨k, m, e, s, kids, v1, rfl, rfl, hkids⟩ := V.lay h
  have hnk : V.nodess kids ≤ n := by simp only [V.nodes] at hn; omega
  have hkb : kids.length + V.bulks kids ≤ 4294967295 := by simp only [V.bulk] at hbk; omega
  have hnb := V.nodess_bulks kids
  obtain ⟨a2, c2, rfl, hg⟩ := hkids.values
  obtain ⟨W0, hW0⟩ : ∃ W0, W0 = w.alloc (.cells #[.int .i64 k, .int .i64 m, .int .i64 e, .string ⟨s.toArray⟩, .slice a2 kids.length c2] 42) := ⟨_, rfl⟩
  have HW := Lib.hid hW0
  have hA0 : Below w.heap.size w W0 := by rw [hW0]; exact (Below.refl _ _).alloc (Nat.le_refl _) _
  have hz : w.heap.size < W0.heap.size := by rw [hW0]; simp
  have KB : Hid (∀ W, Below W0.heap.size W0 W → W.cell? ⟨w.heap.size, 4, none⟩ = some (.slice a2 kids.length c2)) := by
    intro W hb
    obtain ⟨hc, _⟩ := bcell hb
    simp only [hc _ _ hz]; subst hW0; simp
  clear hW0 h hkids hbk
  go_enter Tryd.func54, Tryd.ntmps54
  go_wp2
  rw [← HW.out]
  go_loopw [3, 4] (fun x i wr => ∃ (j : Nat), j ≤ kids.length ∧ i = .int .i64 j ∧ x = .int .i64 (1 + V.nodess (kids.take j) : Nat) ∧ Below W0.heap.size W0 wr) (fun _ i _ => kids.length - (intOf i).toNat)
  case atStart => exact ⟨0, Nat.zero_le _, rfl, by simp [V.nodess], Below.refl _ _⟩
  case round =>
    obtain ⟨j, hj, rfl, rfl, hbel⟩ := hrel
    have f5 := KB.out _ hbel
    have hbw := below2 hA0 hbel (Nat.le_refl _)
    by_cases hlt : j < kids.length
    · obtain ⟨_, _, b, o, rfl, hb, hcell⟩ := hg (by intro e; rw [e] at hlt; simp at hlt)
      obtain ⟨v0, v1, v2, v3, v4, hr, d0, d1, d2, d3, d4⟩ := hcell j hlt
      clear hcell hg
      obtain ⟨k1, k2, k3, s4, a6, n6, m6, hcs⟩ := V.form hr
      simp only [List.cons.injEq, and_true] at hcs
      obtain ⟨rfl, rfl, rfl, rfl, rfl⟩ := hcs
      have hbc := (bcell hbw).1
      rw [← hbc _ _ hb] at d0 d1 d2 d3 d4
      clear hbc
      have hi1 : (0 : Int) ≤ j := by omega
      have hi3 : (j : Int) < kids.length := by omega
      have hn1 := V.nodes_get kids j hlt
      have HC := Lib.hid (hA kids[j] _ wr (Nat.le_trans hn1 hnk) (hr.below hbw) (V.bulk_get' hkb j hlt))
      have HS := Lib.hid (V.nodes_split kids j hlt)
      have ht1 := V.nodess_take kids j
      obtain ⟨q, hq⟩ : ∃ q, V.nodess (kids.take j) = q := ⟨_, rfl⟩
      rw [hq] at HS ht1 ⊢
      clear hq
      obtain ⟨p, hp⟩ : ∃ p, kids[j].nodes = p := ⟨_, rfl⟩
      rw [hp] at HS hn1 HC
      clear hp
      go_wp2_with (go_at_call 54; refine HC.out.mono ?_; rintro e w1 ⟨rfl, hb1⟩)
      go_roundw
      case rel => exact ⟨j + 1, by omega, by go_num, by rw [HS.out]; go_num, below2 hbel hb1 (Nat.le_refl _)⟩
      case measure => simp [intOf]; omega
    · obtain rfl : j = kids.length := by omega
      rw [List.take_length]
      go_wp2
      go_ret
      exact ⟨rfl, hbw⟩
theorem VMn_all : ∀ n, VMnA n
  | 0 => fun x cs w hn => absurd x.nodes_pos (by omega)
  | n + 1 => VMnA_of (VMn_all n)

set_option maxHeartbeats 400000 in
set_option maxRecDepth 10000 in
theorem valueOk_spec (x : V) (cs : List Value) (w : World) (h : Rd w x.d cs) (hwf : x.wf) (hbk : x.bulk ≤ 4294967295) :
    Calls Tryd.prog 34 #[.agg cs.toArray] w fun e w' => e = .returned (.bool x.ok) ∧ Below w.heap.size w w' := by
  obtain ⟨k, m, e, s, a2, n2, c2, rfl⟩ := V.form h
  obtain ⟨W0, hW0⟩ : ∃ W0, W0 = w.alloc (.cells #[.int .i64 k, .int .i64 m, .int .i64 e, .string ⟨s.toArray⟩, .slice a2 n2 c2] 42) := ⟨_, rfl⟩
  have HW := Lib.hid hW0
  have hA : Below w.heap.size w W0 := by rw [hW0]; exact (Below.refl _ _).alloc (Nat.le_refl _) _
  have hz : w.heap.size < W0.heap.size := by rw [hW0]; simp
  have KB : Hid (∀ W, Below W0.heap.size W0 W → W.cell? ⟨w.heap.size, 0, none⟩ = some (.int .i64 k) ∧ W.cell? ⟨w.heap.size, 1, none⟩ = some (.int .i64 m) ∧ W.cell? ⟨w.heap.size, 2, none⟩ = some (.int .i64 e) ∧ W.cell? ⟨w.heap.size, 3, none⟩ = some (.string ⟨s.toArray⟩) ∧ W.cell? ⟨w.heap.size, 4, none⟩ = some (.slice a2 n2 c2)) := by
    intro W hb
    obtain ⟨hc, _⟩ := bcell hb
    simp only [hc _ _ hz]; subst hW0; simp
  have hnb := x.nodes_bulk
  have HR := Lib.hid (fun W (hb : Below W0.heap.size W0 W) => VRt_all x.nodes x _ 12 W (Nat.le_refl _) (h.below (below2 hA hb (Nat.le_refl _))) hwf hbk (by decide) (by decide))
  have HM := Lib.hid (fun W (hb : Below W0.heap.size W0 W) => VMn_all x.nodes x _ W (Nat.le_refl _) (h.below (below2 hA hb (Nat.le_refl _))) hbk)
  have hB := Below.refl W0.heap.size W0
  clear hW0 h
  go_enter Tryd.func34, Tryd.ntmps34
  cases hr : V.rightBy pairsOk 12 x with
  | true =>
    have HV := Lib.hid hr; clear hr
    go_wp2_with (first | (go_at_call 53; rw [← HW.out]; refine (HR.out _ hB).mono ?_; rw [HV.out]; rintro e w1 ⟨rfl, hb1⟩; obtain ⟨p0, p1, p2, p3, p4⟩ := KB.out _ hb1) | (go_at_call 54; refine (HM.out _ hb1).mono ?_; rintro e w2 ⟨rfl, hb2⟩))
    go_ret
    refine ⟨ret_bool ?_, below2 hA (below2 hb1 hb2 (Nat.le_refl _)) (Nat.le_refl _)⟩
    unfold V.ok; rw [HV.out, Bool.true_and, Bool.eq_iff_iff]; simp; omega
  | false =>
    have HV := Lib.hid hr; clear hr
    go_wp2_with (first | (go_at_call 53; rw [← HW.out]; refine (HR.out _ hB).mono ?_; rw [HV.out]; rintro e w1 ⟨rfl, hb1⟩))
    go_ret
    refine ⟨ret_bool ?_, below2 hA hb1 (Nat.le_refl _)⟩
    unfold V.ok; rw [HV.out]; rfl
end Go.Proofs.YtpknmldpdoadgaaDoor

/- spec.ShapeOf on values without memory. -/
namespace Go.Proofs.YtpknmldpdoadgaaDoor
open Go.RowKit
variable {T : World → Prop} {hT : Low ngl T}

theorem vtexts_fn (v : V) (hl : v.kids.length ≤ 4294967295) : FnV (env T hT) 56 [.ag (vC v)] (.d (pB v.texts)) := by
  refine FnV.old rfl fun w C vs hF _ _ hlen hv => ?_
  match vs, hlen with
  | [a], _ =>
    have h0 := hv 0 _ _ rfl rfl
    rw [← V.pc_eq] at h0
    obtain ⟨cs, rfl, h1⟩ := vRd hF (V.wfd v) h0
    exact texts_spec v cs w h1 hl
theorem vok_fn (v : V) (hw : v.wf) (hb : v.bulk ≤ 4294967295) : FnV (env T hT) 34 [.ag (vC v)] (.d (pB v.ok)) := by
  refine FnV.old rfl fun w C vs hF _ _ hlen hv => ?_
  match vs, hlen with
  | [a], _ =>
    have h0 := hv 0 _ _ rfl rfl
    rw [← V.pc_eq] at h0
    obtain ⟨cs, rfl, h1⟩ := vRd hF (V.wfd v) h0
    exact valueOk_spec v cs w h1 hw hb
theorem sized_fn (k n : Int) : FnV (env T hT) 55 [.d (pI k), .d (pI n)] (.ag (shC (.mk k n n [] 0 []))) := by
  refine fn_of (look_env lk_s_l15Sized) (by show 2 ≤ 9; decide) fun B hB => ?_
  unfold m_s_l15Sized
  refine mw_seq (mw_ops ?_)
  refine po_zero ?_
  refine po_nil ?_
  refine mw_seq (mw_ops ?_)
  iterate 4 (refine po_q rfl rfl ?_)
  refine po_store rfl rfl rfl ⟨rfl, Nat.le_of_ble_eq_true rfl⟩ rfl ?_
  refine po_nil ?_
  exact mw_ret ⟨.inr rfl, _, rfl, rfl⟩

/-- ShapeOf of smaller values -/
def SoP (T : World → Prop) (hT : Low ngl T) (N : Nat) : Prop := ∀ v : V, v.nodes ≤ N → v.wf → v.bulk ≤ 4294967295 → FnO (env T hT) 13 [.ag (vC v)] (.ag (shC (shTop v)))
def szC (k n : Int) : List PC := shC (.mk k n n [] 0 [])
def ListI (v : V) (m : Nat) (s : St) : Prop := ∃ (i : Nat) (c : List PC) (rest : List (List PC)), i ≤ v.kids.length ∧ m = v.kids.length - i ∧ has s.tm [(1, .ref 0 0), (2, .ref 1 0), (3, .ref 2 0), (4, .ref 3 0), (5, .d (pI i))] ∧
  s.bx = vC v :: zSh :: szC 7 v.kids.length :: c :: rest ∧ erL c = shC (joinAll ((v.kids.map shp).take i)) ∧ c.length = 6 ∧ 2 ≤ s.nt ∧ OwnL s.nt s.live c
def MapI (v : V) (m : Nat) (s : St) : Prop := ∃ (i tk tr : Nat) (rows : List (List PC)), 2 * i ≤ v.kids.length ∧ m = v.kids.length - 2 * i ∧ has s.tm [(1, .ref 0 0), (2, .ref 1 0), (7, .ref 2 0), (8, .d (pI ((2 * i : Nat) : Int)))] ∧
  s.bx = [vC v, zSh, oC (.sl tk (pSr ((keysL v.kids).take i))) 0 (.sl tr rows)] ∧ erLL rows = shK ((vals (v.kids.map shp)).take i) ∧ (tk = 1 ∧ pSr ((keysL v.kids).take i) = [] ∨ 2 ≤ tk) ∧ (tr = 1 ∧ rows = [] ∨ 2 ≤ tr) ∧ 2 ≤ s.nt ∧ OwnL s.nt s.live (oC (.sl tk (pSr ((keysL v.kids).take i))) 0 (.sl tr rows))

theorem list_out {nt : Nat} {live : List Nat} {c : List PC} {n : Nat} {ss : List Sh} (hc : erL c = shC (joinAll ss)) (h2 : 2 ≤ nt) (hO : OwnL nt live c) : (PV.ag [pI 7, pI n, pI n, .sl 0 [], pI 0, .sl nt [c]]).dat = some (.ag (shC (.mk 7 n n [] 0 [joinAll ss]))) ∧ (PV.ag [pI 7, pI n, pI n, .sl 0 [], pI 0, .sl nt [c]]).toks.Nodup ∧ (∀ t ∈ (PV.ag [pI 7, pI n, pI n, .sl 0 [], pI 0, .sl nt [c]]).toks, t ∈ nt :: live) ∧ ownedL [pI 7, pI n, pI n, .sl 0 [], pI 0, .sl nt [c]] = true := by
  have et : (PV.ag [pI 7, pI n, pI n, .sl 0 [], pI 0, .sl nt [c]]).toks = nt :: toksL c := by
    show toksL [pI 7, pI n, pI n, .sl 0 [], pI 0, .sl nt [c]] = _
    simp [toksL, PC.toks, pI, h2, toksLL]
  have h0 : nt ≠ 0 := by omega
  refine ⟨?_, ?_, ?_, ?_⟩
  · show some (PV.ag (erL [pI 7, pI n, pI n, .sl 0 [], pI 0, .sl nt [c]])) = _
    simp only [erL, PC.er, erLL, hc, pI, ← Sh.pc_eq]; rfl
  · rw [et, List.nodup_cons]; exact ⟨fun h => by have := (hO.mem _ h).2; omega, hO.nd⟩
  · rw [et]; intro t ht
    rcases List.mem_cons.1 ht with rfl | ht
    · simp
    · simp [(hO.mem t ht).1]
  · simp [ownedL, PC.owned, ownedLL, pI, h0, hO.own]

set_option maxHeartbeats 2000000 in
theorem of_step {N : Nat} (hS : SoP T hT N) (v : V) (hn : v.nodes ≤ N + 1) (hw : v.wf) (hk : v.ok = true) : FnO (env T hT) 35 [.ag (vC v)] (.ag (shC (shRaw v (v.kids.map shp)))) := by
  have hb := V.ok_bulk hk
  have hkl := V.ok_len hk
  have hgood := shps_good hw hk
  have hvlen : (vK v.kids).length = v.kids.length := vK_len _
  have hml : (v.kids.map shp).length = v.kids.length := by simp
  have hkid : ∀ (i : Nat) (h : i < v.kids.length), FnO (env T hT) 13 [.ag (vC v.kids[i])] (.ag (shC (shp v.kids[i]))) := fun i h => by
    have hki := V.ok_kid hk i h
    have := hS v.kids[i] (V.nodes_kid hn i h) (V.wf_kid hw i h) (by have := V.ok_bulk hki; omega)
    unfold shTop at this; rw [if_pos hki] at this; exact this
  have htx := vtexts_fn (T := T) (hT := hT) v (by omega)
  refine fn_of (look_env lk_s_l15Of) (by show 1 ≤ 113; decide) fun B hB => ?_
  unfold m_s_l15Of
  refine mw_seq (mw_ops ?_)
  refine po_box rfl ?_
  refine po_zero ?_
  refine po_nil ?_
  unfold shRaw
  refine mw_seq (mw_seq (mw_ops ?_))
  iterate 2 (refine po_q rfl rfl ?_)
  refine po_nil ?_
  refine mw_block (mw_seq (mw_ops ?_))
  refine po_b rfl rfl (fun b hb0 => ?_)
  refine po_q rfl rfl ?_
  refine po_nil ?_
  by_cases h0 : v.kind = 0
  · obtain rfl : b = true := by rw [hb0]; exact decide_eq_true h0
    rw [if_pos h0]
    refine mw_cond (t := true) rfl (fun _ => ?_) (fun h => absurd h (by decide))
    refine mw_seq (mw_ops ?_)
    refine po_q rfl rfl ?_
    refine po_store rfl rfl rfl ⟨rfl, Nat.le_of_ble_eq_true rfl⟩ rfl ?_
    refine po_nil ?_
    exact mw_ret ⟨.inr rfl, _, rfl, rfl, List.nodup_nil, fun t ht => (by cases ht), rfl⟩
  rw [if_neg h0]
  obtain rfl : b = false := by rw [hb0]; exact decide_eq_false h0
  refine mw_cond (t := false) rfl (fun h => absurd h (by decide)) (fun _ => ?_)
  refine mw_cut (fun s => has s.tm [(1, .ref 0 0), (2, .ref 1 0), (10, .d (pI v.kind)), (14, .d (pB (decide (v.kind = 1 ∨ v.kind = 2))))] ∧ s.bx = [vC v, zSh] ∧ s.nt = 2 ∧ s.live = []) ?_ ?_
  · refine mw_seq (mw_ops ?_)
    refine po_b rfl rfl (fun b hb1 => ?_)
    refine po_q rfl rfl ?_
    refine po_nil ?_
    by_cases h1 : v.kind = 1
    · obtain rfl : b = true := by rw [hb1]; exact decide_eq_true h1
      refine mw_cond (t := true) rfl (fun _ => ?_) (fun h => absurd h (by decide))
      refine mw_skip ?_
      exact ⟨⟨rfl, rfl, rfl, by rw [decide_eq_true (.inl h1)]; rfl, trivial⟩, rfl, rfl, rfl⟩
    · obtain rfl : b = false := by rw [hb1]; exact decide_eq_false h1
      refine mw_cond (t := false) rfl (fun h => absurd h (by decide)) (fun _ => ?_)
      refine mw_ops ?_
      refine po_b rfl rfl (fun b hb2 => ?_)
      refine po_q rfl rfl ?_
      refine po_nil ?_
      refine ⟨⟨rfl, rfl, rfl, ?_, trivial⟩, rfl, rfl, rfl⟩
      have : b = decide (v.kind = 1 ∨ v.kind = 2) := by rw [hb2]; exact decide_eq_decide.2 ⟨.inr, fun h => h.resolve_left h1⟩
      rw [← this]; rfl
  rintro tm bx nt live ⟨ht, hbx, hnt, hlv⟩
  obtain ⟨tm0, rfl⟩ := has_ups ht
  simp only at hbx hnt hlv; subst hbx; subst hnt; subst hlv
  clear ht hb0
  by_cases h1 : v.kind = 1 ∨ v.kind = 2
  · rw [if_pos h1, decide_eq_true h1]
    refine mw_cond (t := true) rfl (fun _ => ?_) (fun h => absurd h (by decide))
    refine mw_seq (mw_ops ?_)
    refine po_q rfl rfl ?_
    refine po_store rfl rfl rfl ⟨rfl, Nat.le_of_ble_eq_true rfl⟩ rfl ?_
    refine po_nil ?_
    exact mw_ret ⟨.inr rfl, _, rfl, rfl, List.nodup_nil, fun t ht => (by cases ht), rfl⟩
  rw [if_neg h1, decide_eq_false h1]
  refine mw_cond (t := false) rfl (fun h => absurd h (by decide)) (fun _ => ?_)
  refine mw_seq (mw_ops ?_)
  refine po_b rfl rfl (fun b hb0 => ?_)
  refine po_q rfl rfl ?_
  refine po_nil ?_
  by_cases h3 : v.kind = 3
  · obtain rfl : b = true := by rw [hb0]; exact decide_eq_true h3
    rw [if_pos h3]
    refine mw_cond (t := true) rfl (fun _ => ?_) (fun h => absurd h (by decide))
    refine mw_seq (mw_ops ?_)
    iterate 2 (refine po_q rfl rfl ?_)
    refine po_call (args := [.d (pI 3), .d (pI v.num)]) rfl (sized_fn 3 v.num) ?_
    refine po_store rfl rfl rfl ⟨rfl, Nat.le_of_ble_eq_true rfl⟩ rfl ?_
    refine po_nil ?_
    exact mw_ret ⟨.inr rfl, _, rfl, rfl, List.nodup_nil, fun t ht => (by cases ht), rfl⟩
  rw [if_neg h3]
  obtain rfl : b = false := by rw [hb0]; exact decide_eq_false h3
  refine mw_cond (t := false) rfl (fun h => absurd h (by decide)) (fun _ => ?_)
  refine mw_seq (mw_ops ?_)
  refine po_b rfl rfl (fun b hb0 => ?_)
  refine po_q rfl rfl ?_
  refine po_nil ?_
  by_cases h4 : v.kind = 4
  · obtain rfl : b = true := by rw [hb0]; exact decide_eq_true h4
    rw [if_pos h4]
    refine mw_cond (t := true) rfl (fun _ => ?_) (fun h => absurd h (by decide))
    refine mw_seq (mw_ops ?_)
    refine po_q rfl rfl ?_
    refine po_store rfl rfl rfl ⟨rfl, Nat.le_of_ble_eq_true rfl⟩ rfl ?_
    refine po_nil ?_
    exact mw_ret ⟨.inr rfl, _, rfl, rfl, List.nodup_nil, fun t ht => (by cases ht), rfl⟩
  rw [if_neg h4]
  obtain rfl : b = false := by rw [hb0]; exact decide_eq_false h4
  refine mw_cond (t := false) rfl (fun h => absurd h (by decide)) (fun _ => ?_)
  refine mw_seq (mw_ops ?_)
  refine po_b rfl rfl (fun b hb0 => ?_)
  refine po_q rfl rfl ?_
  refine po_nil ?_
  by_cases h5 : v.kind = 5
  · obtain rfl : b = true := by rw [hb0]; exact decide_eq_true h5
    rw [if_pos h5]
    refine mw_cond (t := true) rfl (fun _ => ?_) (fun h => absurd h (by decide))
    refine mw_seq (mw_ops ?_)
    iterate 2 (refine po_q rfl rfl ?_)
    refine po_q (v := .d (pI v.text.length)) rfl rfl ?_
    refine po_call (args := [.d (pI 5), .d (pI v.text.length)]) rfl (sized_fn 5 v.text.length) ?_
    refine po_store rfl rfl rfl ⟨rfl, Nat.le_of_ble_eq_true rfl⟩ rfl ?_
    refine po_nil ?_
    exact mw_ret ⟨.inr rfl, _, rfl, rfl, List.nodup_nil, fun t ht => (by cases ht), rfl⟩
  rw [if_neg h5]
  obtain rfl : b = false := by rw [hb0]; exact decide_eq_false h5
  refine mw_cond (t := false) rfl (fun h => absurd h (by decide)) (fun _ => ?_)
  refine mw_seq (mw_ops ?_)
  refine po_b rfl rfl (fun b hb0 => ?_)
  refine po_q rfl rfl ?_
  refine po_nil ?_
  by_cases h6 : v.kind = 6
  · obtain rfl : b = true := by rw [hb0]; exact decide_eq_true h6
    rw [if_pos h6]
    refine mw_cond (t := true) rfl (fun _ => ?_) (fun h => absurd h (by decide))
    refine mw_seq (mw_ops ?_)
    iterate 2 (refine po_q rfl rfl ?_)
    refine po_q (v := .d (pI v.text.length)) rfl rfl ?_
    refine po_call (args := [.d (pI 6), .d (pI v.text.length)]) rfl (sized_fn 6 v.text.length) ?_
    refine po_store rfl rfl rfl ⟨rfl, Nat.le_of_ble_eq_true rfl⟩ rfl ?_
    refine po_nil ?_
    exact mw_ret ⟨.inr rfl, _, rfl, rfl, List.nodup_nil, fun t ht => (by cases ht), rfl⟩
  rw [if_neg h6]
  obtain rfl : b = false := by rw [hb0]; exact decide_eq_false h6
  refine mw_cond (t := false) rfl (fun h => absurd h (by decide)) (fun _ => ?_)
  refine mw_seq (mw_ops ?_)
  refine po_b rfl rfl (fun b hb0 => ?_)
  refine po_q rfl rfl ?_
  refine po_nil ?_
  by_cases h7 : v.kind = 7
  · obtain rfl : b = true := by rw [hb0]; exact decide_eq_true h7
    rw [if_pos h7]
    refine mw_cond (t := true) rfl (fun _ => ?_) (fun h => absurd h (by decide))
    refine mw_seq (mw_ops ?_)
    iterate 2 (refine po_q rfl rfl ?_)
    refine po_q (v := .d (pI v.kids.length)) rfl (by show some (PV.d (.v (.int .i64 ((vK v.kids).length : Nat)))) = _; rw [hvlen]; rfl) ?_
    refine po_call (args := [.d (pI 7), .d (pI v.kids.length)]) rfl (sized_fn 7 v.kids.length) ?_
    refine po_zero ?_
    refine po_store rfl rfl rfl ⟨rfl, Nat.le_of_ble_eq_true rfl⟩ rfl ?_
    refine po_nil ?_
    refine mw_seq (mw_ops ?_)
    refine po_q rfl rfl ?_
    refine po_zero ?_
    refine po_store rfl rfl rfl ⟨rfl, Nat.le_of_ble_eq_true rfl⟩ rfl ?_
    refine po_nil ?_
    refine mw_cut (fun s => ∃ m, ListI v m s ∧ m = 0) ?_ ?_
    · refine mw_seq (mw_ops ?_)
      refine po_q rfl rfl ?_
      refine po_nil ?_
      refine mw_block ?_
      refine mw_while (ListI v) v.kids.length ⟨0, zSh, [], Nat.zero_le _, by simp, ⟨rfl, rfl, rfl, rfl, rfl, trivial⟩, rfl, rfl, rfl, Nat.le_refl 2, rfl, List.nodup_nil, fun t ht => (by cases ht)⟩ ?_
      rintro m tm bx nt live ⟨i, c, rest, hi, rfl, ht, hbx, hc, hcl, hnt, hO⟩
      obtain ⟨tm0, rfl⟩ := has_ups ht
      simp only at hbx hnt hO; subst hbx
      refine mw_seq (mw_seq (mw_ops ?_))
      iterate 4 (refine po_q rfl rfl ?_)
      refine po_b rfl rfl (fun b1 hb1 => ?_)
      refine po_nil ?_
      refine mw_cond rfl (fun hc1 => ?_) (fun hc1 => ?_)
      · have hlt : i < v.kids.length := by
          subst hb1; have := of_decide_eq_true hc1; rw [hvlen] at this; omega
        refine mw_skip ?_
        refine mw_seq (mw_block (mw_seq (mw_ops ?_)))
        iterate 3 (refine po_q rfl rfl ?_)
        refine po_ix (es := vK v.kids) (e := vC v.kids[i]) rfl rfl rfl ⟨by omega, by rw [Int.toNat_natCast]; exact vK_get hlt⟩ rfl ?_
        refine po_q rfl rfl ?_
        refine po_sh (vC_arg _) (hkid i hlt) ?_
        intro c0 c1 c2 c3 c4 c5 nt' hx hnt2 hN
        refine po_new (cs := [c0, c1, c2, c3, c4, c5]) rfl rfl rfl rfl ?_
        refine po_nil ?_
        refine mw_seq (mw_ops ?_)
        refine po_q rfl rfl ?_
        refine po_b rfl rfl (fun b2 hb2 => ?_)
        refine po_nil ?_
        have hst := joinAll_take (ss := v.kids.map shp) (j := i) (by rw [hml]; exact hlt)
        rw [List.getElem_map] at hst
        by_cases hi0 : i = 0
        · rw [if_pos hi0] at hst
          obtain rfl : b2 = true := by rw [hb2]; exact decide_eq_true (by omega)
          refine mw_cond (t := true) rfl (fun _ => ?_) (fun h => absurd h (by decide))
          refine mw_ops ?_
          refine po_ldw (p := _) (cs := [c0, c1, c2, c3, c4, c5]) rfl rfl (get_last _ _) rfl ?_
          refine po_stw (p := 3) rfl rfl rfl rfl hcl rfl ?_
          refine po_nil ?_
          refine mw_ops ?_
          refine po_q rfl rfl ?_
          refine po_add (n := ((i + 1 : Nat) : Int)) rfl rfl rfl (by omega) (by omega) ?_
          refine po_q rfl rfl ?_
          refine po_nil ?_
          exact ⟨v.kids.length - (i + 1), by omega, i + 1, [c0, c1, c2, c3, c4, c5], _, hlt, rfl, ⟨rfl, rfl, rfl, rfl, rfl, trivial⟩, rfl, by rw [hst]; exact hx, rfl, by show 2 ≤ nt'; omega, hN.ownL _⟩
        · rw [if_neg hi0] at hst
          obtain rfl : b2 = false := by rw [hb2]; exact decide_eq_false (by omega)
          refine mw_cond (t := false) rfl (fun h => absurd h (by decide)) (fun _ => ?_)
          refine mw_ops ?_
          refine po_ldw (p := 3) (cs := c) rfl rfl rfl hcl ?_
          refine po_ldw (p := _) (cs := [c0, c1, c2, c3, c4, c5]) rfl rfl (get_last _ _) rfl ?_
          have hja := joinAll_good (ss := (v.kids.map shp).take i) (fun s hs => hgood s (List.mem_of_mem_take hs))
          have hsg := shp_good _ v.kids[i] (Nat.le_refl _) (V.wf_kid hw i hlt) (V.ok_kid hk i hlt)
          refine po_ownN (n := 6) (dats2 hc hx) (join_spec _ _ hja.1 hsg.1 (by omega) (by omega)) rfl ?_
          intro c' nt2 hx' hl' hn2 hN'
          refine po_stw (p := 3) rfl rfl rfl hl' hcl rfl ?_
          refine po_nil ?_
          refine mw_ops ?_
          refine po_q rfl rfl ?_
          refine po_add (n := ((i + 1 : Nat) : Int)) rfl rfl rfl (by omega) (by omega) ?_
          refine po_q rfl rfl ?_
          refine po_nil ?_
          exact ⟨v.kids.length - (i + 1), by omega, i + 1, c', _, hlt, rfl, ⟨rfl, rfl, rfl, rfl, rfl, trivial⟩, rfl, by rw [hst]; exact hx', hl', by show 2 ≤ nt2; omega, hN'.ownL _⟩
      · have hge : i = v.kids.length := by
          subst hb1; have := of_decide_eq_false hc1; rw [hvlen] at this; omega
        refine mw_exit ?_
        exact ⟨0, ⟨i, c, rest, hi, by omega, ⟨rfl, rfl, rfl, rfl, rfl, trivial⟩, rfl, hc, hcl, hnt, hO⟩, rfl⟩
    rintro tm bx nt live ⟨m, ⟨i, c, rest, hi, rfl, ht, hbx, hc, hcl, hnt, hO⟩, hm⟩
    obtain ⟨tm0, rfl⟩ := has_ups ht
    simp only at hbx hnt hO; subst hbx
    have hie : i = v.kids.length := by omega
    subst hie
    rw [← hml, List.take_length] at hc
    refine mw_seq (mw_ops ?_)
    refine po_ldw (p := 3) (cs := c) rfl rfl rfl hcl ?_
    refine po_lit (es := [c]) (by simp only [litP, pcells, ev]; show (match pcells (.ag c), some [] with | some cs, some l => if cs.length = 6 then some (cs :: l) else none | _, _ => none) = _; simp only [pcells, hcl, if_true]) ?_
    refine po_q rfl rfl ?_
    refine po_store rfl rfl rfl ⟨rfl, Nat.le_of_ble_eq_true rfl⟩ rfl ?_
    refine po_nil ?_
    refine mw_seq (mw_ops ?_)
    refine po_q rfl rfl ?_
    refine po_store rfl rfl rfl ⟨rfl, Nat.le_of_ble_eq_true rfl⟩ rfl ?_
    refine po_nil ?_
    exact mw_ret ⟨.inr rfl, _, rfl, list_out hc hnt hO⟩
  rw [if_neg h7]
  obtain rfl : b = false := by rw [hb0]; exact decide_eq_false h7
  refine mw_cond (t := false) rfl (fun h => absurd h (by decide)) (fun _ => ?_)
  refine mw_seq (mw_ops ?_)
  refine po_b rfl rfl (fun b hb0 => ?_)
  refine po_q rfl rfl ?_
  refine po_nil ?_
  by_cases h8 : v.kind = 8
  case neg =>
    have htx0 : ¬ v.texts = true := by unfold V.texts; simp [h8]
    rw [if_neg htx0]
    obtain rfl : b = false := by rw [hb0]; exact decide_eq_false h8
    refine mw_cond (t := false) rfl (fun h => absurd h (by decide)) (fun _ => ?_)
    refine mw_skip ?_
    refine mw_seq (mw_ops ?_)
    refine po_q rfl rfl ?_
    refine po_store rfl rfl rfl ⟨rfl, Nat.le_of_ble_eq_true rfl⟩ rfl ?_
    refine po_nil ?_
    exact mw_ret ⟨.inr rfl, _, rfl, rfl, List.nodup_nil, fun t ht => (by cases ht), rfl⟩
  obtain rfl : b = true := by rw [hb0]; exact decide_eq_true h8
  refine mw_cond (t := true) rfl (fun _ => ?_) (fun h => absurd h (by decide))
  refine mw_seq (mw_ops ?_)
  refine po_q rfl rfl ?_
  refine po_zero ?_
  refine po_store rfl rfl rfl ⟨rfl, Nat.le_of_ble_eq_true rfl⟩ rfl ?_
  refine po_nil ?_
  by_cases htx1 : v.texts = true
  case neg =>
    rw [if_neg htx1]
    have hf : v.texts = false := by simpa using htx1
    rw [hf] at htx
    refine mw_cut (fun s => has s.tm [(1, .ref 0 0), (2, .ref 1 0), (7, .ref 2 0)] ∧ s.bx = [vC v, zSh, oC (.sl 1 []) 0 (.sl 1 [])]) ?_ ?_
    · refine mw_seq (mw_ops ?_)
      refine po_q rfl rfl ?_
      refine po_nil ?_
      refine mw_block ?_
      refine mw_while (fun _ s => has s.tm [(1, .ref 0 0), (2, .ref 1 0), (7, .ref 2 0), (8, .d (pI 0))] ∧ s.bx = [vC v, zSh, oC (.sl 1 []) 0 (.sl 1 [])]) 0 ⟨⟨rfl, rfl, rfl, rfl, trivial⟩, rfl⟩ ?_
      rintro m tm bx nt live ⟨ht, hbx⟩
      obtain ⟨tm0, rfl⟩ := has_ups ht
      simp only at hbx; subst hbx
      refine mw_seq (mw_seq (mw_ops ?_))
      iterate 4 (refine po_q rfl rfl ?_)
      refine po_b rfl rfl (fun b1 hb1 => ?_)
      refine po_q rfl rfl ?_
      cases b1
      · iterate 2 (refine po_skip rfl ?_)
        refine po_q rfl rfl ?_
        refine po_nil ?_
        refine mw_cond (t := false) rfl (fun h => absurd h (by decide)) (fun _ => ?_)
        refine mw_exit ?_
        exact ⟨⟨rfl, rfl, rfl, trivial⟩, rfl⟩
      · refine po_q rfl rfl ?_
        refine po_gcall (b := true) rfl (fun _ => vC_arg v) (fun _ => htx) ?_
        refine po_q rfl rfl ?_
        refine po_nil ?_
        refine mw_cond (t := false) rfl (fun h => absurd h (by decide)) (fun _ => ?_)
        refine mw_exit ?_
        exact ⟨⟨rfl, rfl, rfl, trivial⟩, rfl⟩
    rintro tm bx nt live ⟨ht, hbx⟩
    obtain ⟨tm0, rfl⟩ := has_ups ht
    simp only at hbx; subst hbx
    refine mw_seq (mw_ops ?_)
    iterate 4 (refine po_q rfl rfl ?_)
    refine po_store rfl rfl rfl ⟨rfl, Nat.le_of_ble_eq_true rfl⟩ rfl ?_
    refine po_nil ?_
    refine mw_seq (mw_ops ?_)
    refine po_q rfl rfl ?_
    refine po_call (vC_arg v) htx ?_
    refine po_nil ?_
    refine mw_cond (t := false) rfl (fun h => absurd h (by decide)) (fun _ => ?_)
    refine mw_skip ?_
    refine mw_seq (mw_ops ?_)
    refine po_q rfl rfl ?_
    refine po_store rfl rfl rfl ⟨rfl, Nat.le_of_ble_eq_true rfl⟩ rfl ?_
    refine po_nil ?_
    exact mw_ret ⟨.inr rfl, _, rfl, rfl, List.nodup_nil, fun t ht => (by cases ht), rfl⟩
  rw [if_pos htx1]
  rw [htx1] at htx
  have hkk : 2 * (keysL v.kids).length = v.kids.length := by
    unfold V.texts V.keys at htx1
    rw [if_pos h8, Bool.and_eq_true] at htx1
    exact of_decide_eq_true htx1.2
  have hkt := keysL_texts v.kids hkk
  have hkey : ∀ (i : Nat) (h : 2 * i < v.kids.length), (keysL v.kids).take (i + 1) = (keysL v.kids).take i ++ [v.kids[2 * i].text] := fun i h => by
    have hi : i < (keysL v.kids).length := by omega
    rw [List.take_succ_eq_append_getElem hi]
    congr 2
    have h1 : (keysL v.kids)[i]? = some v.kids[2 * i].text := by rw [hkt, List.getElem?_map, odds_at v.kids i h]; rfl
    rw [List.getElem?_eq_getElem hi] at h1
    exact Option.some.inj h1
  have hvl : (vals (v.kids.map shp)).length = v.kids.length / 2 := by rw [vals_length, hml]
  have hval : ∀ (i : Nat) (h : 2 * i + 1 < v.kids.length), (vals (v.kids.map shp)).take (i + 1) = (vals (v.kids.map shp)).take i ++ [shp v.kids[2 * i + 1]] := fun i h => by
    have hi : i < (vals (v.kids.map shp)).length := by omega
    rw [List.take_succ_eq_append_getElem hi]
    congr 2
    have h1 := vals_get (v.kids.map shp) i (by rw [hml]; exact h)
    rw [List.getElem?_eq_getElem hi, List.getElem_map] at h1
    exact Option.some.inj h1
  refine mw_cut (fun s => ∃ m, MapI v m s ∧ m = 0) ?_ ?_
  · refine mw_seq (mw_ops ?_)
    refine po_q rfl rfl ?_
    refine po_nil ?_
    refine mw_block ?_
    refine mw_while (MapI v) v.kids.length ⟨0, 1, 1, [], Nat.zero_le _, by simp, ⟨rfl, rfl, rfl, rfl, trivial⟩, rfl, rfl, .inl ⟨rfl, rfl⟩, .inl ⟨rfl, rfl⟩, Nat.le_refl 2, rfl, List.nodup_nil, fun t ht => (by cases ht)⟩ ?_
    rintro m tm bx nt live ⟨i, tk, tr, rows, hi, rfl, ht, hbx, hr, htk, htr, hnt, hO⟩
    obtain ⟨tm0, rfl⟩ := has_ups ht
    simp only at hbx hnt hO; subst hbx
    refine mw_seq (mw_seq (mw_ops ?_))
    iterate 4 (refine po_q rfl rfl ?_)
    refine po_b rfl rfl (fun b1 hb1 => ?_)
    refine po_q rfl rfl ?_
    by_cases hlt : 2 * i < v.kids.length
    · obtain rfl : b1 = true := by rw [hb1]; exact decide_eq_true (by rw [hvlen]; omega)
      have hlt1 : 2 * i + 1 < v.kids.length := by omega
      refine po_q rfl rfl ?_
      refine po_gcall (b := true) rfl (fun _ => vC_arg v) (fun _ => htx) ?_
      refine po_q rfl rfl ?_
      refine po_nil ?_
      refine mw_cond (t := true) rfl (fun _ => ?_) (fun h => absurd h (by decide))
      refine mw_skip ?_
      refine mw_seq (mw_block (mw_seq (mw_ops ?_)))
      iterate 5 (refine po_q rfl rfl ?_)
      refine po_ix (es := vK v.kids) (e := vC v.kids[2 * i]) rfl rfl rfl ⟨by omega, by rw [Int.toNat_natCast]; exact vK_get hlt⟩ rfl ?_
      iterate 2 (refine po_q rfl rfl ?_)
      refine po_q (v := .d (.sl 0 [[pS v.kids[2 * i].text]])) rfl rfl ?_
      have hkn : ((keysL v.kids).take i).length ≤ 300 := by rw [List.length_take]; omega
      refine po_app (t := tk) (es := pSr ((keysL v.kids).take i)) (ds := [[pS v.kids[2 * i].text]]) rfl rfl (hO.app (a := [_, _, _]) htk []) (by rw [pSr_len]; simp; omega) (by simp) (pSr_wid _) ?_
      refine po_q rfl rfl ?_
      refine po_store rfl rfl rfl ⟨rfl, Nat.le_of_ble_eq_true rfl⟩ rfl ?_
      refine po_nil ?_
      have hO2 := hO.pushA (nt' := nt) (a := [_, _, _]) (e := [pS v.kids[2 * i].text]) htk (Nat.le_refl _) rfl List.nodup_nil (fun t ht => by cases ht) hnt
      have hrow : pSr ((keysL v.kids).take i) ++ [[pS v.kids[2 * i].text]] = pSr ((keysL v.kids).take (i + 1)) := by rw [hkey i hlt, pSr_append]; rfl
      refine mw_ops ?_
      iterate 5 (refine po_q rfl rfl ?_)
      refine po_add (n := ((2 * i + 1 : Nat) : Int)) rfl rfl rfl (by omega) (by omega) ?_
      refine po_ix (es := vK v.kids) (e := vC v.kids[2 * i + 1]) rfl rfl rfl ⟨by omega, by rw [Int.toNat_natCast]; exact vK_get hlt1⟩ rfl ?_
      refine po_q rfl rfl ?_
      refine po_sh (vC_arg _) (hkid (2 * i + 1) hlt1) ?_
      intro c0 c1 c2 c3 c4 c5 nt' hx hnt2 hN
      refine po_q (v := .d (.sl 0 [[c0, c1, c2, c3, c4, c5]])) rfl rfl ?_
      have hrl := erLL_len hr
      rw [shK_len, List.length_take, hvl] at hrl
      refine po_app (t := tr) (es := rows) (ds := [[c0, c1, c2, c3, c4, c5]]) rfl rfl (hO2.app (a := [_, _, _, _, _]) (b := []) htr _) (by rw [List.length_singleton]; omega) (by simp) (erLL_wid hr (shK_wid _)) ?_
      refine po_q rfl rfl ?_
      refine po_store rfl rfl rfl ⟨rfl, Nat.le_of_ble_eq_true rfl⟩ rfl ?_
      refine po_nil ?_
      have hO3 := hO2.pushA (nt' := nt') (a := [_, _, _, _, _]) (b := []) htr (by omega) hN.own hN.nd hN.mem (by omega)
      refine mw_ops ?_
      refine po_q rfl rfl ?_
      refine po_add (n := ((2 * (i + 1) : Nat) : Int)) rfl rfl rfl (by omega) (by omega) ?_
      refine po_q rfl rfl ?_
      refine po_nil ?_
      refine ⟨v.kids.length - 2 * (i + 1), by omega, i + 1, nt, nt', rows ++ [[c0, c1, c2, c3, c4, c5]], by omega, rfl, ⟨rfl, rfl, rfl, rfl, trivial⟩, ?_, ?_, .inr hnt, .inr (by omega), by show 2 ≤ nt' + 1; omega, ?_⟩
      · rw [← hrow]; rfl
      · rw [erLL_append, hr, hval i hlt1, shK_eq, shK_eq, List.map_append]
        show _ ++ [erL [c0, c1, c2, c3, c4, c5]] = _ ++ [shC (shp v.kids[2 * i + 1])]
        rw [hx]
      · rw [← hrow]; exact hO3
    · obtain rfl : b1 = false := by rw [hb1]; exact decide_eq_false (by rw [hvlen]; omega)
      iterate 2 (refine po_skip rfl ?_)
      refine po_q rfl rfl ?_
      refine po_nil ?_
      refine mw_cond (t := false) rfl (fun h => absurd h (by decide)) (fun _ => ?_)
      refine mw_exit ?_
      exact ⟨0, ⟨i, tk, tr, rows, hi, by omega, ⟨rfl, rfl, rfl, rfl, trivial⟩, rfl, hr, htk, htr, hnt, hO⟩, rfl⟩
  rintro tm bx nt live ⟨m, ⟨i, tk, tr, rows, hi, rfl, ht, hbx, hr, htk, htr, hnt, hO⟩, hm⟩
  obtain ⟨tm0, rfl⟩ := has_ups ht
  simp only at hbx hnt hO; subst hbx
  have hie : i = (keysL v.kids).length := by omega
  have hie2 : i = (vals (v.kids.map shp)).length := by rw [hvl]; omega
  rw [hie2, List.take_length] at hr
  rw [show (keysL v.kids).take i = keysL v.kids by rw [hie, List.take_length]] at hO ⊢
  refine mw_seq (mw_ops ?_)
  iterate 2 (refine po_q rfl rfl ?_)
  refine po_q (v := .d (pI (keysL v.kids).length)) rfl (by show some (PV.d (.v (.int .i64 ((pSr (keysL v.kids)).length : Nat)))) = _; rw [pSr_len]; rfl) ?_
  refine po_q rfl rfl ?_
  refine po_store rfl rfl rfl ⟨rfl, Nat.le_of_ble_eq_true rfl⟩ rfl ?_
  refine po_nil ?_
  refine mw_seq (mw_ops ?_)
  refine po_q rfl rfl ?_
  refine po_call (vC_arg v) htx ?_
  refine po_nil ?_
  refine mw_cond (t := true) rfl (fun _ => ?_) (fun h => absurd h (by decide))
  refine mw_seq (mw_ops ?_)
  refine po_q rfl rfl ?_
  refine po_store rfl rfl rfl ⟨rfl, Nat.le_of_ble_eq_true rfl⟩ rfl ?_
  refine po_nil ?_
  refine mw_ret ⟨.inr rfl, _, rfl, ?_, hO.nd, fun t ht => (hO.mem t ht).1, hO.own⟩
  show some (PV.ag (erL (oC (.sl tk (pSr (keysL v.kids))) (keysL v.kids).length (.sl tr rows)))) = some (PV.ag (shC (.mk 8 0 0 (keysL v.kids) (keysL v.kids).length (vals (v.kids.map shp)))))
  refine congrArg (fun l => some (PV.ag l)) ?_
  simp only [oC, erL, PC.er, pSr_er, hr]
  rfl

theorem shapeOf_step {N : Nat} (hS : SoP T hT N) : SoP T hT (N + 1) := by
  intro v hn hw hb
  refine fn_of (look_env lk_s_ShapeOf) (by show 1 ≤ 15; decide) fun B hB => ?_
  unfold m_s_ShapeOf
  refine mw_seq (mw_ops ?_)
  refine po_box rfl ?_
  refine po_zero ?_
  refine po_nil ?_
  refine mw_seq (mw_seq (mw_ops ?_))
  refine po_q rfl rfl ?_
  refine po_call (vC_arg v) (vok_fn v hw hb) ?_
  refine po_q rfl rfl ?_
  refine po_nil ?_
  unfold shTop
  by_cases hk : v.ok = true
  case neg =>
    rw [if_neg hk]
    have hf : v.ok = false := by simpa using hk
    refine mw_cond (t := true) (by rw [hf]; rfl) (fun _ => ?_) (fun h => absurd h (by decide))
    refine mw_seq (mw_ops ?_)
    refine po_q rfl rfl ?_
    refine po_store rfl rfl rfl ⟨rfl, Nat.le_of_ble_eq_true rfl⟩ rfl ?_
    refine po_nil ?_
    exact mw_ret ⟨.inr rfl, _, rfl, rfl, List.nodup_nil, fun t ht => (by cases ht), rfl⟩
  rw [if_pos hk]
  refine mw_cond (t := false) (by rw [hk]; rfl) (fun h => absurd h (by decide)) (fun _ => ?_)
  refine mw_skip ?_
  have hg := shRaw_good hw (V.ok_bulk hk) (V.ok_len hk) (by simp) (shps_good hw hk)
  refine mw_seq (mw_ops ?_)
  refine po_q rfl rfl ?_
  refine po_ownN (n := 6) (vC_arg v) (of_step hS v hn hw hk) rfl ?_
  intro c nt' hc hcl hn2 hN
  refine po_zero ?_
  refine po_stw (p := 2) rfl rfl rfl hcl rfl rfl ?_
  refine po_nil ?_
  refine mw_seq (mw_seq (mw_ops ?_))
  refine po_ldw (p := 2) (cs := c) rfl rfl rfl hcl ?_
  refine po_call (dats1 hc) (ok_fn _ hg.1 (by have := hg.2; omega)) ?_
  refine po_q rfl rfl ?_
  refine po_nil ?_
  rw [shp_eq]; unfold chk
  by_cases ho : (shRaw v (v.kids.map shp)).ok = true
  · rw [if_pos ho]
    refine mw_cond (t := false) (by rw [ho]; rfl) (fun h => absurd h (by decide)) (fun _ => ?_)
    refine mw_skip ?_
    refine mw_seq (mw_ops ?_)
    refine po_ldw (p := 2) (cs := c) rfl rfl rfl hcl ?_
    refine po_stw (p := 1) rfl rfl rfl hcl rfl rfl ?_
    refine po_nil ?_
    refine mw_ret ⟨.inr rfl, [.ag c], ?_, congrArg (fun l => some (PV.ag l)) hc, hN.nd, fun t ht => List.mem_append.2 (.inl ht), hN.own⟩
    exact ress_box rfl rfl hcl
  · rw [if_neg ho]
    have hf : (shRaw v (v.kids.map shp)).ok = false := by simpa using ho
    refine mw_cond (t := true) (by rw [hf]; rfl) (fun _ => ?_) (fun h => absurd h (by decide))
    refine mw_seq (mw_ops ?_)
    refine po_q rfl rfl ?_
    refine po_store rfl rfl rfl ⟨rfl, Nat.le_of_ble_eq_true rfl⟩ rfl ?_
    refine po_nil ?_
    exact mw_ret ⟨.inr rfl, _, rfl, rfl, List.nodup_nil, fun t ht => (by cases ht), rfl⟩
theorem shapeOfP_all : ∀ N, SoP T hT N
  | 0 => fun v hn => by obtain ⟨k, n, e, s, kids⟩ := v; simp [V.nodes] at hn
  | N + 1 => shapeOf_step (shapeOfP_all N)
/-- the reference's ShapeOf -/
theorem shapeOf_spec (v : V) (hw : v.wf) (hb : v.bulk ≤ 4294967295) : FnO (env T hT) 13 [.ag (vC v)] (.ag (shC (shTop v))) := shapeOfP_all v.nodes v (Nat.le_refl _) hw hb
end Go.Proofs.YtpknmldpdoadgaaDoor

/- slices.Grow of a nil row and slices.Concat of two rows of texts. -/
namespace Go.Proofs.YtpknmldpdoadgaaDoor
open Go.RowKit

set_option maxHeartbeats 1000000 in
set_option maxRecDepth 10000 in
theorem grow_any (n : Nat) (w : World) (hn : n ≤ 4294967296) :
    Calls Tryd.prog 87 #[.slice none 0 0, .int .i64 n] w fun e w' => ∃ v', e = .returned v' ∧ Below w.heap.size w w' ∧ OwnR w' w.heap.size 9 v' [] := by
  obtain ⟨i, z, g1, g2, g3, g4, g5⟩ := tyStr.info
  have h1 : ¬ ((n : Int) < 0) := by omega
  have h2 : IntKind.i64.wrap ((0 : Int) - 0) = 0 := rfl
  have h3 : IntKind.i64.wrap ((n : Int) - 0) = n := IntWalk.i64_in _ (by omega)
  by_cases h0 : n = 0
  · subst h0
    go_enter Tryd.func87, Tryd.ntmps87
    go_wp2
    go_ret
    exact ⟨_, rfl, Below.refl _ _, OwnR.nil⟩
  · have h4 : (n : Int) > 0 := by omega
    have hr := fun ty => Lib.run_append_nil_zeros (P := Tryd.prog) w 22 3 ty 9 i z .i64 .i64 tyStr.under Tryd.underlying3 g1 g2 n (by omega) (by omega) (by omega) (by rw [g4]; omega)
    have hge := grownCap_ge w n 0 9
    have hle := grownCap_le_maxLen w n 0 9 (by unfold maxLen; omega)
    obtain ⟨cap, hcap⟩ : ∃ cap, grownCap w n 0 9 = cap := ⟨_, rfl⟩
    rw [hcap] at hr hge hle
    have hown := World.ownsRow_made (base := w.heap.size) (e := 9) (size := 1) w.drew (Builtin.zeroCells z.cells n ++ Builtin.zeroCells z.cells (cap - n)) cap (by simp) hle (by rw [Array.size_append, size_zeroCells, size_zeroCells, g5]; omega)
    have hb : Below w.heap.size w (w.drew.alloc (.cells (Builtin.zeroCells z.cells n ++ Builtin.zeroCells z.cells (cap - n)) 9)) := ((Below.refl _ _).drew).alloc (by simp) _
    obtain ⟨W1, hW1⟩ : ∃ W1, w.drew.alloc (.cells (Builtin.zeroCells z.cells n ++ Builtin.zeroCells z.cells (cap - n)) 9) = W1 := ⟨_, rfl⟩
    rw [hW1] at hr hown hb
    clear hcap hW1 g1 g2 g3 g4 g5 h0
    go_enter Tryd.func87, Tryd.ntmps87
    go_wp2_with (at_builtin; refine Lib.wpList_append_run _ rfl _ _ _ _ rfl _ _ rfl rfl _ _ (hr _) ?_)
    go_ret
    exact ⟨_, rfl, hb, hown⟩

def szs (a b : Nat) : Nat → Nat
  | 0 => 0
  | 1 => a
  | _ => a + b
def ccs (a b : List (List UInt8)) : Nat → List (List UInt8)
  | 0 => []
  | 1 => a
  | _ => a ++ b
set_option maxHeartbeats 1000000 in
set_option maxRecDepth 10000 in
theorem concat_any (l1 l2 : List (List UInt8)) (v1 v2 : Value) (g o c : Nat) (w : World) (h1 : StrRow w v1 l1) (h2 : StrRow w v2 l2) (c0 : w.cell? ⟨g, o, none⟩ = some v1) (c1 : w.cell? ⟨g, o + 1, none⟩ = some v2) (hl : l1.length + l2.length ≤ 4294967290) :
    Calls Tryd.prog 73 #[.slice (some ⟨g, o, none⟩) 2 c] w fun e w' => ∃ v', e = .returned v' ∧ Below w.heap.size w w' ∧ OwnR w' w.heap.size 9 v' ((l1 ++ l2).map strV) := by
  obtain ⟨a1, k1, e1, f1⟩ := h1
  obtain ⟨a2, k2, e2, f2⟩ := h2
  have hr1 : StrRow w v1 l1 := ⟨a1, k1, e1, f1⟩
  have hr2 : StrRow w v2 l2 := ⟨a2, k2, e2, f2⟩
  subst e1; subst e2
  clear f1 f2
  have HG := fun (w : World) => Lib.hid (grow_any (l1.length + l2.length) w (by omega))
  obtain ⟨L1, hL1⟩ : ∃ L1, l1.length = L1 := ⟨_, rfl⟩
  obtain ⟨L2, hL2⟩ : ∃ L2, l2.length = L2 := ⟨_, rfl⟩
  have HL1 := Lib.hid hL1
  have HL2 := Lib.hid hL2
  rw [hL1, hL2] at HG hl
  rw [hL1] at c0 hr1
  rw [hL2] at c1 hr2
  clear hL1 hL2
  have j0 : IntKind.i64.wrap ((0 : Int) + L1) = L1 := by rw [Int.zero_add]; exact IntWalk.i64_in _ (by omega)
  have j1 : IntKind.i64.wrap ((L1 : Int) + L2) = (L1 + L2 : Nat) := by rw [← Int.natCast_add]; exact IntWalk.i64_in _ (by omega)
  have n1 : ¬ ((L1 : Int) < 0) := by omega
  have n2 : ¬ (((L1 + L2 : Nat) : Int) < 0) := by omega
  go_enter Tryd.func73, Tryd.ntmps73
  go_wp2_with fail
  go_loopw [3, 11] (fun s i wr => ∃ j : Nat, j ≤ 2 ∧ i = .int .i64 j ∧ s = .int .i64 (szs L1 L2 j : Nat) ∧ wr = w) (fun _ i _ => 2 - (intOf i).toNat)
  case atStart => exact ⟨0, by omega, rfl, rfl, rfl⟩
  case round =>
    obtain ⟨j, hj, rfl, rfl, hwr⟩ := hrel
    rw [hwr]; clear hwr
    obtain rfl | rfl | rfl : j = 0 ∨ j = 1 ∨ j = 2 := by omega
    · simp only [szs]
      go_wp2
      go_roundw
      case rel => refine ⟨1, by omega, by go_num, ?_⟩; simp [szs]
      case measure => simp [intOf]
    · simp only [szs]
      go_wp2
      go_roundw
      case rel => refine ⟨2, by omega, by go_num, ?_⟩; simp [szs]
      case measure => simp [intOf]
    · simp only [szs]
      go_wp2_with (go_at_call 87; refine (HG _).out.mono ?_; rintro e1 w1 ⟨v', rfl, hb1, hown⟩)
      go_loopw [6, 27] (fun v i wr => ∃ (j : Nat), j ≤ 2 ∧ i = .int .i64 j ∧ OwnR wr w.heap.size 9 v ((ccs l1 l2 j).map strV) ∧ Below w.heap.size w wr) (fun _ i _ => 2 - (intOf i).toNat)
      case atStart => exact ⟨0, by omega, rfl, hown, hb1⟩
      case round =>
        obtain ⟨j, hj, rfl, hown2, hb2⟩ := hrel
        have hrA := hr1.below hb2
        have hrB := hr2.below hb2
        have cA := (bcell hb2).1 g o (cell_lt c0)
        rw [c0] at cA
        have cB := (bcell hb2).1 g (o + 1) (cell_lt c1)
        rw [c1] at cB
        have hsz := hb2.size
        obtain rfl | rfl | rfl : j = 0 ∨ j = 1 ∨ j = 2 := by omega
        · go_wp2_with (at_builtin; refine wp_appS tyStr rfl rfl w.heap.size hown2 rfl hrA rfl (by simp [ccs]; have := HL1.out; omega) (by decide) hsz ?_)
          intro v' w' hown3 hgr3 _
          have hb3 := OwnR.grown hown2 hb2 hgr3 hsz
          go_wp2
          go_roundw
          case rel => exact ⟨1, by omega, by go_num, by simpa [ccs] using hown3, hb3⟩
          case measure => simp [intOf]
        · go_wp2_with (at_builtin; refine wp_appS tyStr rfl rfl w.heap.size hown2 rfl hrB rfl (by simp [ccs]; have := HL1.out; have := HL2.out; omega) (by decide) hsz ?_)
          intro v' w' hown3 hgr3 _
          have hb3 := OwnR.grown hown2 hb2 hgr3 hsz
          go_wp2
          go_roundw
          case rel => exact ⟨2, by omega, by go_num, by simpa [ccs] using hown3, hb3⟩
          case measure => simp [intOf]
        · go_wp2
          go_ret
          exact ⟨_, rfl, hb2, hown2⟩
end Go.Proofs.YtpknmldpdoadgaaDoor

/- Bodies of functions in the small language. Written by a program. -/
namespace Go.Proofs.YtpknmldpdoadgaaDoor
set_option maxRecDepth 100000
def m_slices_Contains_string_string : M := .seq (.ops [⟨some 4, .mv (.c (.bool false)), none, []⟩])
 (.seq (.ops [⟨some 5, .mv (.t 0), none, []⟩,
  ⟨some 6, .mv (.t 1), none, []⟩,
  ⟨some 7, .call 86 [.t 5, .t 6], none, [.f 1]⟩,
  ⟨some 8, .bin .geq false (.t 7) (.c (.int .i64 0)), none, []⟩,
  ⟨some 4, .mv (.t 8), none, []⟩])
 (.ret))
theorem lk_slices_Contains_string_string : look Tryd.prog 74 = some (9, m_slices_Contains_string_string, [.tm 4]) := by kernel_rfl
end Go.Proofs.YtpknmldpdoadgaaDoor

/- impl.joinedMaps on values without memory. -/
namespace Go.Proofs.YtpknmldpdoadgaaDoor
open Go.RowKit
variable {T : World → Prop} {hT : Low ngl T}

theorem po_slc {E : Env} {d n : Nat} {x : X} {lo hi : Option X} {c : List X} {r : List MOpr} {K : St → Prop} {tm : Nat → PV} {bx : List (List PC)} {nt : Nat} {live : List Nat} {t l h : Nat} {es rs : List (List PC)} (hx : ev tm x = .d (.sl t es)) (hl : bound (ev tm) 0 lo = some l) (hh : bound (ev tm) es.length hi = some h) (hle : l ≤ h ∧ h ≤ es.length) (hw : ∀ e ∈ es, e.length = n) (hr : (es.drop l).take (h - l) = rs)
    (k : po E r K ⟨up d (.d (.sl 0 rs)) tm, bx, nt, live⟩) : po E (⟨some d, .slc n x lo hi, none, c⟩ :: r) K ⟨tm, bx, nt, live⟩ := by
  refine po_q rfl ?_ k
  subst hr
  simp only [qf, hx, hl, hh]
  rw [if_pos ⟨hle.1, hle.2, hw⟩]

theorem contains_fn (ks : List (List UInt8)) (key : List UInt8) (hl : ks.length ≤ 4294967295) : FnV (env T hT) 74 [.d (pSs ks), .d (pS key)] (.d (pB (decide (key ∈ ks)))) := by
  refine fn_of (look_env lk_slices_Contains_string_string) (by show 2 ≤ 9; decide) fun B hB => ?_
  unfold m_slices_Contains_string_string
  refine mw_seq (mw_ops ?_)
  refine po_q rfl rfl ?_
  refine po_nil ?_
  refine mw_seq (mw_ops ?_)
  iterate 2 (refine po_q rfl rfl ?_)
  refine po_call (key_arg ks key) (index_fn ks key hl) ?_
  refine po_b rfl rfl (fun b1 hb1 => ?_)
  refine po_q rfl rfl ?_
  refine po_nil ?_
  refine mw_ret ⟨.inr rfl, _, rfl, ?_⟩
  have : decide (key ∈ ks) = b1 := by rw [hb1]; exact decide_eq_decide.2 (ixF_mem ks key 0).symm
  rw [this]; rfl
theorem concat_fn (l1 l2 : List (List UInt8)) (hl : l1.length + l2.length ≤ 4294967290) : FnV (env T hT) 73 [.d (.sl 0 [[pSs l1], [pSs l2]])] (.d (pSs (l1 ++ l2))) := by
  refine (FnO.oldR (te := 9) ?_).v
  intro w C vs hF hng hT hl2 hv
  match vs, hl2 with
  | [v], _ =>
    have hd : (D.sl 1 [dSs l1, dSs l2]).pc = [.sl 0 [[pSs l1], [pSs l2]]] := by simp only [D.pc, D.pcE, dSs_pc]
    have h1 := vRd1 (d := .sl 1 [dSs l1, dSs l2]) hF (by
      simp only [D.wf, D.wfs]
      exact ⟨fun e he => by simp at he; rcases he with rfl | rfl <;> rfl, dSs_wf l1, dSs_wf l2, trivial⟩) hd (hv 0 _ _ rfl rfl)
    obtain ⟨a, c, rfl, h2⟩ := h1.slice
    obtain ⟨_, _, _, g, o, rfl, _, h3⟩ := h2 (by simp)
    obtain ⟨cs0, e0, r0, q0⟩ := h3 0 (by simp)
    obtain ⟨cs1, e1, r1, q1⟩ := h3 1 (by simp)
    match cs0, e0, cs1, e1 with
    | [v0], _, [v1], _ =>
      exact concat_any l1 l2 v0 v1 g o c w r0.strRow r1.strRow (q0 0 v0 rfl) (q1 0 v1 rfl) hl

def K1 (a : Sh) : List (List UInt8) := a.keys.take a.must.toNat
def clo : PV := .fn 71 [.ref 0 0, .ref 1 0, .ref 3 0]
def Jm1 (a b : Sh) (f : List UInt8 → Sh) (m : Nat) (s : St) : Prop := ∃ i : Nat, i ≤ (K1 a).length ∧ m = (K1 a).length - i ∧ has s.tm [(2, .ref 0 0), (3, .ref 1 0), (4, .ref 2 0), (5, .ref 3 0), (6, clo), (20, .d (.sl 0 (pSr (K1 a)))), (21, .d (pI (K1 a).length)), (22, .d (pI i))] ∧
  AdI a b (((K1 a).take i).filter (mustIn b)) 0 f s.nt s.live s.bx
def Jm2 (a b : Sh) (f : List UInt8 → Sh) (m : Nat) (s : St) : Prop := ∃ i : Nat, i ≤ (a.keys ++ b.keys).length ∧ m = (a.keys ++ b.keys).length - i ∧ has s.tm [(2, .ref 0 0), (3, .ref 1 0), (4, .ref 2 0), (5, .ref 3 0), (6, clo), (47, .d (.sl 0 (pSr (a.keys ++ b.keys)))), (48, .d (pI (a.keys ++ b.keys).length)), (49, .d (pI i))] ∧
  AdI a b (addK (jKeys1 a b) ((a.keys ++ b.keys).take i)) (jKeys1 a b).length f s.nt s.live s.bx

set_option maxHeartbeats 1000000 in
theorem jmaps_fn {N : Nat} (hJ : JnQ T hT N) (a b : Sh) (hn : a.nodes ≤ N + 1) (hwa : a.wf) (hwb : b.wf) (hoa : a.ok = true) (hob : b.ok = true) (hka : a.kind = 8) (hkb : b.kind = 8) :
    FnV (env T hT) 51 [.ag (shC a), .ag (shC b)] (.ag (shC (joinMaps (joinS N) a b))) := by
  obtain ⟨hna, hla, hma1, hma2, hla1, hka1⟩ := ok_map hoa hka
  obtain ⟨hnb, hlb, hmb1, hmb2, hlb1, hkb1⟩ := ok_map hob hkb
  have hba := (Sh.ok_bulk hoa).1
  have hbb := (Sh.ok_bulk hob).1
  have hK1 : (K1 a).length ≤ 100 := by unfold K1; rw [List.length_take]; omega
  have hadd := fun key ks m tk tr rows rest nt live hkey hks hr hN => add_fn (T := T) (hT := hT) hJ a b key ks m tk tr rows rest nt live hn hwa hwb hba hbb (by omega) (by omega) hkey hks hr hN
  have hcl : okFn (env T hT).P 71 = true := by show okFn Tryd.prog _ = true; kernel_rfl
  refine fn_of (look_env lk_i_joinedMaps) (by show 2 ≤ 63; decide) fun B hB => ?_
  unfold m_i_joinedMaps
  refine mw_seq (mw_ops ?_)
  iterate 2 (refine po_box rfl ?_)
  refine po_zero ?_
  refine po_nil ?_
  refine mw_seq (mw_ops ?_)
  refine po_q rfl rfl ?_
  refine po_zero ?_
  refine po_store rfl rfl rfl ⟨rfl, Nat.le_of_ble_eq_true rfl⟩ rfl ?_
  refine po_nil ?_
  refine mw_seq (mw_ops ?_)
  iterate 2 (refine po_q rfl rfl ?_)
  refine po_nil ?_
  refine mw_cut (fun s => ∃ m, Jm1 a b (jKid (joinS N) a b) m s ∧ m = 0) ?_ ?_
  · refine mw_seq (mw_ops ?_)
    iterate 4 (refine po_q rfl rfl ?_)
    refine po_slc (t := 0) (es := pSr a.keys) (l := 0) (h := a.must.toNat) (rs := pSr (K1 a)) rfl rfl (if_pos hma1) ⟨by omega, by rw [pSr_len]; omega⟩ (pSr_wid _) (by unfold K1 pSr; rw [List.drop_zero, Nat.sub_zero, List.map_take]) ?_
    iterate 2 (refine po_q rfl rfl ?_)
    refine po_nil ?_
    refine mw_block ?_
    refine mw_while (Jm1 a b (jKid (joinS N) a b)) (K1 a).length ⟨0, Nat.zero_le _, by simp, ⟨rfl, rfl, rfl, rfl, rfl, rfl, congrArg (fun n : Nat => PV.d (pI n)) (pSr_len (K1 a)), rfl, trivial⟩, 1, 1, [], [], rfl, rfl, .inl rfl, .inl rfl, fun _ => rfl, Nat.le_refl 2⟩ ?_
    rintro m tm bx nt live ⟨i, hi, rfl, ht, tk, tr, rows, rest, hbx, hr, hN⟩
    obtain ⟨tm0, rfl⟩ := has_ups ht
    simp only at hbx hN; subst hbx
    refine mw_seq (mw_ops ?_)
    refine po_b rfl rfl (fun b1 hb1 => ?_)
    refine po_nil ?_
    refine mw_seq (mw_cond rfl (fun hc => ?_) (fun hc => ?_))
    · have hlt : i < (K1 a).length := by subst hb1; have := of_decide_eq_true hc; omega
      have hmem : (K1 a)[i] ∈ a.keys := List.mem_of_mem_take (List.getElem_mem hlt)
      have hst : ((K1 a).take (i + 1)).filter (mustIn b) = if mustIn b (K1 a)[i] = true then ((K1 a).take i).filter (mustIn b) ++ [(K1 a)[i]] else ((K1 a).take i).filter (mustIn b) := by
        rw [List.take_succ_eq_append_getElem hlt, List.filter_append]
        cases hp : mustIn b (K1 a)[i] with
        | true => rw [if_pos rfl]; simp [hp]
        | false => rw [if_neg (by decide)]; simp [hp]
      have hfl : (((K1 a).take i).filter (mustIn b)).length ≤ 100 := by
        have h1 := List.length_filter_le (mustIn b) ((K1 a).take i)
        rw [List.length_take] at h1; omega
      have hfb := field_fn (T := T) (hT := hT) b (K1 a)[i] (by omega) (by omega)
      have hmi : (decide (0 ≤ ixF b.keys (K1 a)[i] 0) && decide (ixF b.keys (K1 a)[i] 0 < b.must)) = mustIn b (K1 a)[i] := rfl
      rw [hmi] at hfb
      generalize hmv : mustIn b (K1 a)[i] = mv at hfb hst
      refine mw_skip ?_
      refine mw_seq (mw_block (mw_seq (mw_ops ?_)))
      refine po_ix (es := pSr (K1 a)) (e := [pS (K1 a)[i]]) rfl rfl rfl ⟨by omega, by rw [Int.toNat_natCast]; exact pSr_get hlt⟩ rfl ?_
      iterate 2 (refine po_q rfl rfl ?_)
      refine po_nil ?_
      refine mw_seq (mw_ops ?_)
      iterate 2 (refine po_q rfl rfl ?_)
      refine po_call (shk_arg b (K1 a)[i]) hfb ?_
      iterate 4 (refine po_q rfl rfl ?_)
      refine po_new (cs := shC (fldV b (K1 a)[i])) rfl rfl rfl rfl ?_
      iterate 2 (refine po_q rfl rfl ?_)
      refine po_nil ?_
      refine mw_seq (mw_ops ?_)
      refine po_q rfl rfl ?_
      refine po_nil ?_
      cases mv
      · rw [if_neg (by decide)] at hst
        refine mw_cond (t := false) rfl (fun h => absurd h (by decide)) (fun _ => ?_)
        refine mw_skip ?_
        refine mw_ops ?_
        iterate 2 (refine po_q rfl rfl ?_)
        refine po_nil ?_
        refine ⟨(K1 a).length - (i + 1), by omega, i + 1, hlt, rfl, ⟨rfl, rfl, rfl, rfl, rfl, rfl, rfl, ?_, trivial⟩, ?_⟩
        · show PV.d (.v (.int .i64 (IntKind.wrap .i64 ((i : Int) + 1)))) = _
          rw [wrap_lt (by omega) (by omega)]; rfl
        · rw [hst]; exact ⟨tk, tr, rows, rest ++ [shC (fldV b (K1 a)[i])], rfl, hr, hN⟩
      · rw [if_pos rfl] at hst
        refine mw_cond (t := true) rfl (fun _ => ?_) (fun h => absurd h (by decide))
        refine mw_ops ?_
        iterate 2 (refine po_q rfl rfl ?_)
        refine po_vg (cap := [.ref 0 0, .ref 1 0, .ref 3 0]) rfl hcl rfl (hadd (K1 a)[i] (((K1 a).take i).filter (mustIn b)) 0 tk tr rows (rest ++ [shC (fldV b (K1 a)[i])]) nt live (.inl hmem) (by omega) hr hN) ?_
        intro y bx' nt' live' hA
        refine po_nil ?_
        refine mw_ops ?_
        iterate 2 (refine po_q rfl rfl ?_)
        refine po_nil ?_
        refine ⟨(K1 a).length - (i + 1), by omega, i + 1, hlt, rfl, ⟨rfl, rfl, rfl, rfl, rfl, rfl, rfl, ?_, trivial⟩, ?_⟩
        · show PV.d (.v (.int .i64 (IntKind.wrap .i64 ((i : Int) + 1)))) = _
          rw [wrap_lt (by omega) (by omega)]; rfl
        · rw [hst]; exact hA
    · have hge : i = (K1 a).length := by subst hb1; have := of_decide_eq_false hc; omega
      refine mw_exit ?_
      exact ⟨0, ⟨i, hi, by omega, ⟨rfl, rfl, rfl, rfl, rfl, rfl, rfl, rfl, trivial⟩, tk, tr, rows, rest, rfl, hr, hN⟩, rfl⟩
  rintro tm bx nt live ⟨m, ⟨i, hi, rfl, ht, tk, tr, rows, rest, hbx, hr, hN⟩, hm⟩
  obtain ⟨tm0, rfl⟩ := has_ups ht
  simp only at hbx hN; subst hbx
  have hie : i = (K1 a).length := by omega
  subst hie
  have hk1 : ((K1 a).take (K1 a).length).filter (mustIn b) = jKeys1 a b := by rw [List.take_length]; rfl
  rw [hk1] at hr ⊢
  have hk1l := jKeys1_len a b
  refine mw_seq (mw_ops ?_)
  iterate 4 (refine po_q rfl rfl ?_)
  refine po_store rfl rfl rfl ⟨rfl, Nat.le_of_ble_eq_true rfl⟩ rfl ?_
  refine po_nil ?_
  have hA0 : AdI a b (jKeys1 a b) (jKeys1 a b).length (jKid (joinS N) a b) nt live (shC a :: shC b :: zSh :: oC (.sl tk (pSr (jKeys1 a b))) ((pSr (jKeys1 a b)).length : Nat) (.sl tr rows) :: rest) := by
    rw [pSr_len]; exact ⟨tk, tr, rows, rest, rfl, hr, hN⟩
  refine mw_cut (fun s => ∃ m, Jm2 a b (jKid (joinS N) a b) m s ∧ m = 0) ?_ ?_
  · refine mw_seq (mw_ops ?_)
    iterate 4 (refine po_q rfl rfl ?_)
    refine po_lit rfl ?_
    refine po_call (args := [.d (.sl 0 [[pSs a.keys], [pSs b.keys]])]) (congrArg (fun l => some [PV.d (.sl 0 l)]) (show [[(pSs a.keys).er], [(pSs b.keys).er]] = _ by rw [pSs_er, pSs_er])) (concat_fn a.keys b.keys (by omega)) ?_
    iterate 2 (refine po_q rfl rfl ?_)
    refine po_nil ?_
    refine mw_block ?_
    refine mw_while (Jm2 a b (jKid (joinS N) a b)) (a.keys ++ b.keys).length ⟨0, Nat.zero_le _, by simp, ⟨rfl, rfl, rfl, rfl, rfl, rfl, congrArg (fun n : Nat => PV.d (pI n)) (pSr_len (a.keys ++ b.keys)), rfl, trivial⟩, ?_⟩ ?_
    · obtain ⟨tk, tr, rows, rest, h1, h2, h3⟩ := hA0
      exact ⟨tk, tr, rows, rest, h1, h2, h3.mono (by show nt ≤ nt + 1; omega) (fun x hx => List.mem_cons_of_mem _ hx)⟩
    clear hA0 hr hN
    rintro m tm bx nt live ⟨i, hi, rfl, ht, tk, tr, rows, rest, hbx, hr, hN⟩
    obtain ⟨tm0, rfl⟩ := has_ups ht
    simp only at hbx hN; subst hbx
    have hab : (a.keys ++ b.keys).length ≤ 200 := by rw [List.length_append]; omega
    have hal : (addK (jKeys1 a b) ((a.keys ++ b.keys).take i)).length ≤ 300 := by
      have := addK_len (jKeys1 a b) ((a.keys ++ b.keys).take i)
      rw [List.length_take] at this; omega
    refine mw_seq (mw_ops ?_)
    refine po_b rfl rfl (fun b1 hb1 => ?_)
    refine po_nil ?_
    refine mw_seq (mw_cond rfl (fun hc => ?_) (fun hc => ?_))
    · have hlt : i < (a.keys ++ b.keys).length := by subst hb1; have := of_decide_eq_true hc; omega
      have hst := addK_take (acc := jKeys1 a b) hlt
      refine mw_skip ?_
      refine mw_seq (mw_block (mw_seq (mw_ops ?_)))
      refine po_ix (es := pSr (a.keys ++ b.keys)) (e := [pS (a.keys ++ b.keys)[i]]) rfl rfl rfl ⟨by omega, by rw [Int.toNat_natCast]; exact pSr_get hlt⟩ rfl ?_
      iterate 2 (refine po_q rfl rfl ?_)
      refine po_nil ?_
      refine mw_seq (mw_ops ?_)
      iterate 3 (refine po_q rfl rfl ?_)
      have hct := contains_fn (T := T) (hT := hT) (addK (jKeys1 a b) ((a.keys ++ b.keys).take i)) (a.keys ++ b.keys)[i] (by omega)
      refine po_call (key_arg2 tk _ _) hct ?_
      by_cases hin : (a.keys ++ b.keys)[i] ∈ addK (jKeys1 a b) ((a.keys ++ b.keys).take i)
      · rw [if_pos hin] at hst
        rw [decide_eq_true hin]
        refine po_q rfl rfl ?_
        refine po_nil ?_
        refine mw_cond (t := false) rfl (fun h => absurd h (by decide)) (fun _ => ?_)
        refine mw_skip ?_
        refine mw_ops ?_
        iterate 2 (refine po_q rfl rfl ?_)
        refine po_nil ?_
        refine ⟨(a.keys ++ b.keys).length - (i + 1), by omega, i + 1, hlt, rfl, ⟨rfl, rfl, rfl, rfl, rfl, rfl, rfl, ?_, trivial⟩, ?_⟩
        · show PV.d (.v (.int .i64 (IntKind.wrap .i64 ((i : Int) + 1)))) = _
          rw [wrap_lt (by omega) (by omega)]; rfl
        · rw [hst]; exact ⟨tk, tr, rows, rest, rfl, hr, hN⟩
      · rw [if_neg hin] at hst
        rw [decide_eq_false hin]
        refine po_q rfl rfl ?_
        refine po_nil ?_
        refine mw_cond (t := true) rfl (fun _ => ?_) (fun h => absurd h (by decide))
        refine mw_ops ?_
        iterate 2 (refine po_q rfl rfl ?_)
        refine po_vg (cap := [.ref 0 0, .ref 1 0, .ref 3 0]) rfl hcl rfl (hadd (a.keys ++ b.keys)[i] (addK (jKeys1 a b) ((a.keys ++ b.keys).take i)) (jKeys1 a b).length tk tr rows rest nt live (List.mem_append.1 (List.getElem_mem hlt)) (by omega) hr hN) ?_
        intro y bx' nt' live' hA
        refine po_nil ?_
        refine mw_ops ?_
        iterate 2 (refine po_q rfl rfl ?_)
        refine po_nil ?_
        refine ⟨(a.keys ++ b.keys).length - (i + 1), by omega, i + 1, hlt, rfl, ⟨rfl, rfl, rfl, rfl, rfl, rfl, rfl, ?_, trivial⟩, ?_⟩
        · show PV.d (.v (.int .i64 (IntKind.wrap .i64 ((i : Int) + 1)))) = _
          rw [wrap_lt (by omega) (by omega)]; rfl
        · rw [hst]; exact hA
    · have hge : i = (a.keys ++ b.keys).length := by subst hb1; have := of_decide_eq_false hc; omega
      refine mw_exit ?_
      exact ⟨0, ⟨i, hi, by omega, ⟨rfl, rfl, rfl, rfl, rfl, rfl, rfl, rfl, trivial⟩, tk, tr, rows, rest, rfl, hr, hN⟩, rfl⟩
  clear hA0 hr hN
  rintro tm bx nt live ⟨m, ⟨i, hi, rfl, ht, tk, tr, rows, rest, hbx, hr, hN⟩, hm⟩
  obtain ⟨tm0, rfl⟩ := has_ups ht
  simp only at hbx hN; subst hbx
  have hie : i = (a.keys ++ b.keys).length := by omega
  subst hie
  have hjk : addK (jKeys1 a b) ((a.keys ++ b.keys).take (a.keys ++ b.keys).length) = jKeys a b := by rw [List.take_length]; rfl
  rw [hjk] at hr ⊢
  refine mw_seq (mw_ops ?_)
  refine po_q rfl rfl ?_
  refine po_store rfl rfl rfl ⟨rfl, Nat.le_of_ble_eq_true rfl⟩ rfl ?_
  refine po_nil ?_
  refine mw_ret ⟨.inr rfl, _, rfl, ?_⟩
  show some (PV.ag (erL (oC (.sl tk (pSr (jKeys a b))) (jKeys1 a b).length (.sl tr rows)))) = some (PV.ag (shC (joinMaps (joinS N) a b)))
  refine congrArg (fun l => some (PV.ag l)) ?_
  simp only [oC, erL, PC.er, pSr_er, hr]
  rfl
end Go.Proofs.YtpknmldpdoadgaaDoor

/- impl.joined, checkedShape, Join on values without memory. -/
namespace Go.Proofs.YtpknmldpdoadgaaDoor
open Go.RowKit
variable {T : World → Prop} {hT : Low ngl T}

theorem samei_fn (a b : Sh) (ha : a.bulk ≤ 1048576) (hb : b.bulk ≤ 1048576) : FnV (env T hT) 48 [.ag (shC a), .ag (shC b)] (.d (pB (decide (a = b)))) := by
  refine FnV.old rfl ?_
  intro w C vs hF hng hT hl2 hv
  match vs, hl2 with
  | [v, k], _ =>
    obtain ⟨cs, rfl, h1⟩ := vRd hF (Sh.wfd a) (by rw [Sh.pc_eq]; exact hv 0 _ _ rfl rfl)
    obtain ⟨ds, rfl, h2⟩ := vRd hF (Sh.wfd b) (by rw [Sh.pc_eq]; exact hv 1 _ _ rfl rfl)
    exact sameShape_impl a b cs ds w h1 h2 ha hb
theorem oki_fn (hTab : ∀ w, T w → Tabs w) (a : Sh) (hw : a.wf) (ha : a.bulk ≤ 4294967295) : FnV (env T hT) 24 [.ag (shC a)] (.d (pB a.ok)) := by
  refine FnV.old rfl ?_
  intro w C vs hF hng hT hl2 hv
  match vs, hl2 with
  | [v], _ =>
    obtain ⟨cs, rfl, h1⟩ := vRd hF (Sh.wfd a) (by rw [Sh.pc_eq]; exact hv 0 _ _ rfl rfl)
    exact shapeOk_impl a cs w h1 hw ha (hTab w hT)

theorem min_if (a b : Int) : (if b < a then b else a) = min a b := by split <;> omega
theorem max_if (a b : Int) : (if b > a then b else a) = max a b := by split <;> omega
set_option maxHeartbeats 1000000 in
theorem joined_fn {N : Nat} (hJ : JnQ T hT N) (a b : Sh) (hn : a.nodes ≤ N + 1) (hwa : a.wf) (hwb : b.wf) (hoa : a.ok = true) (hob : b.ok = true) :
    FnV (env T hT) 26 [.ag (shC a), .ag (shC b)] (.ag (shC (join1 (joinS N) a b))) := by
  have hba := (Sh.ok_bulk hoa).1
  have hbb := (Sh.ok_bulk hob).1
  refine fn_of (look_env lk_i_joined) (by show 2 ≤ 73; decide) fun B hB => ?_
  unfold m_i_joined
  refine mw_seq (mw_ops ?_)
  iterate 2 (refine po_box rfl ?_)
  refine po_zero ?_
  refine po_nil ?_
  refine mw_seq (mw_block (mw_seq (mw_ops ?_)))
  iterate 2 (refine po_q rfl rfl ?_)
  refine po_call (shC_arg2 a b) (samei_fn a b (by omega) (by omega)) ?_
  refine po_q rfl rfl ?_
  refine po_nil ?_
  refine mw_cond rfl (fun hc => ?_) (fun hc => ?_)
  · have hab : a = b := of_decide_eq_true hc
    refine mw_seq (mw_ops ?_)
    refine po_q rfl rfl ?_
    refine po_store rfl rfl rfl ⟨rfl, Nat.le_of_ble_eq_true rfl⟩ rfl ?_
    refine po_nil ?_
    refine mw_ret ⟨.inr rfl, _, rfl, ?_⟩
    rw [join1_same hab]; exact congrArg (fun l => some (PV.ag l)) (shC_er a)
  have hab : a ≠ b := of_decide_eq_false hc
  clear hc
  refine mw_cut (fun s => has s.tm (J1F ++ [(11, .d (pB (decide (a.kind = b.kind) && bdK a.kind)))]) ∧ s.bx = [shC a, shC b, zSh]) ?_ ?_
  · refine mw_ops ?_
    iterate 4 (refine po_q rfl rfl ?_)
    refine po_bc rfl rfl (fun hb => ?_) (fun hb => ?_)
    · have hk : a.kind = b.kind := by simpa using hb
      iterate 3 (refine po_q rfl rfl ?_)
      refine po_gcall (b := true) (args := [.d (pI a.kind)]) rfl (fun _ => rfl) (fun _ => bounds_fn a.kind) ?_
      iterate 2 (refine po_q rfl rfl ?_)
      refine po_nil ?_
      refine ⟨⟨rfl, rfl, rfl, ?_, trivial⟩, rfl⟩
      rw [decide_eq_true hk, Bool.true_and]; rfl
    · have hk : a.kind ≠ b.kind := by simpa using hb
      repeat' (first | refine po_skip rfl ?_ | refine po_q rfl rfl ?_)
      refine po_nil ?_
      refine ⟨⟨rfl, rfl, rfl, ?_, trivial⟩, rfl⟩
      rw [decide_eq_false hk, Bool.false_and]; rfl
  rintro tm bx nt live ⟨ht, hbx⟩
  simp only at hbx; subst hbx
  obtain ⟨tm0, rfl⟩ := has_ups ht
  clear ht
  refine mw_cond rfl (fun hc => ?_) (fun hc => ?_)
  · rw [Bool.and_eq_true, decide_eq_true_eq] at hc
    obtain ⟨hk, hbd⟩ := hc
    obtain ⟨hk0, hm0, hk7, hk7'⟩ := ok_bd hoa hbd
    obtain ⟨_, _, _, hk7b⟩ := ok_bd hob (by rw [← hk]; exact hbd)
    have hj := join1_bd (f := joinS N) hab hk hbd
    refine mw_seq (mw_ops ?_)
    iterate 13 (refine po_q rfl rfl ?_)
    refine po_zero ?_
    refine po_store rfl rfl rfl ⟨rfl, Nat.le_of_ble_eq_true rfl⟩ rfl ?_
    refine po_nil ?_
    refine mw_cut (fun s => has s.tm (J1F ++ [(5, .ref 3 0)]) ∧ ∃ t6 r6, s.bx = [shC a, shC b, zSh, [pI a.kind, pI (min a.low b.low), pI (max a.high b.high), .sl 1 [], pI 0, .sl t6 r6]] ∧ erLL r6 = shK (if a.kind = 7 then [joinS N (a.kids.headD shNil) (b.kids.headD shNil)] else [])) ?_ ?_
    · refine mw_seq (mw_ops ?_)
      iterate 2 (refine po_q rfl rfl ?_)
      refine po_b rfl rfl (fun b3 hb3 => ?_)
      refine po_nil ?_
      refine mw_cond rfl (fun hc3 => ?_) (fun hc3 => ?_)
      · have h7 : a.kind = 7 := by rw [hb3] at hc3; simpa using hc3
        obtain ⟨kda, hkda⟩ := hk7' h7
        obtain ⟨kdb, hkdb⟩ := hk7b (hk.symm.trans h7)
        have h0a := one_kid (N := N) hkda
        have h0b := one_kid (N := N) hkdb
        refine mw_ops ?_
        iterate 2 (refine po_q rfl rfl ?_)
        refine po_ix (es := shK a.kids) (e := shC kda) rfl rfl rfl ⟨by decide, by rw [hkda, shK_eq]; rfl⟩ rfl ?_
        iterate 3 (refine po_q rfl rfl ?_)
        refine po_ix (es := shK b.kids) (e := shC kdb) rfl rfl rfl ⟨by decide, by rw [hkdb, shK_eq]; rfl⟩ rfl ?_
        refine po_q rfl rfl ?_
        refine po_sh (shC_arg2 kda kdb) (hJ kda kdb (h0a.1 hn) (h0a.2.1 hwa) (h0b.2.1 hwb) (by omega) (by omega)) ?_
        intro d0 d1 d2 d3 d4 d5 nt2 hy hnt2 hM
        refine po_lit rfl ?_
        refine po_q rfl rfl ?_
        refine po_store rfl rfl rfl ⟨rfl, Nat.le_of_ble_eq_true rfl⟩ rfl ?_
        refine po_nil ?_
        refine ⟨⟨rfl, rfl, rfl, rfl, trivial⟩, nt2, [[d0, d1, d2, d3, d4, d5]], ?_, ?_⟩
        · rw [← min_if, ← max_if]; rfl
        · rw [if_pos h7, hkda, hkdb, shK_eq]
          show [erL [d0, d1, d2, d3, d4, d5]] = [shC (joinS N kda kdb)]
          rw [hy]
      · have h7 : a.kind ≠ 7 := by rw [hb3] at hc3; simpa using hc3
        refine mw_skip ?_
        refine ⟨⟨rfl, rfl, rfl, rfl, trivial⟩, 1, [], ?_, ?_⟩
        · rw [← min_if, ← max_if]; rfl
        · rw [if_neg h7]; rfl
    clear tm0
    rintro tm bx nt live ⟨ht, t6, r6, hbx, hr6⟩
    simp only at hbx; subst hbx
    obtain ⟨tm0, rfl⟩ := has_ups ht
    refine mw_seq (mw_ops ?_)
    refine po_q rfl rfl ?_
    refine po_store rfl rfl rfl ⟨rfl, Nat.le_of_ble_eq_true rfl⟩ rfl ?_
    refine po_nil ?_
    refine mw_ret ⟨.inr rfl, _, rfl, ?_⟩
    rw [hj]
    refine congrArg (fun l => some (PV.ag l)) ?_
    show erL [pI a.kind, pI (min a.low b.low), pI (max a.high b.high), .sl 1 [], pI 0, .sl t6 r6] = _
    simp only [erL, PC.er, hr6]
    rfl
  have hkb : ¬ (a.kind = b.kind ∧ bdK a.kind = true) := by rintro ⟨h1, h2⟩; rw [decide_eq_true h1, h2] at hc; cases hc
  refine mw_cut (fun s => has s.tm (J1F ++ [(50, .d (pB (numK a.kind && numK b.kind)))]) ∧ s.bx = [shC a, shC b, zSh]) ?_ ?_
  · refine mw_ops ?_
    iterate 2 (refine po_q rfl rfl ?_)
    have hfa := numeric_fn (T := T) (hT := hT) a.kind
    have hfb := numeric_fn (T := T) (hT := hT) b.kind
    generalize numK a.kind = na at hfa ⊢
    generalize numK b.kind = nb at hfb ⊢
    refine po_call (args := [.d (pI a.kind)]) rfl hfa ?_
    refine po_q rfl rfl ?_
    cases na
    · repeat' (first | refine po_skip rfl ?_ | refine po_q rfl rfl ?_)
      refine po_nil ?_
      exact ⟨⟨rfl, rfl, rfl, rfl, trivial⟩, rfl⟩
    · iterate 2 (refine po_q rfl rfl ?_)
      refine po_gcall (b := true) (args := [.d (pI b.kind)]) rfl (fun _ => rfl) (fun _ => hfb) ?_
      iterate 2 (refine po_q rfl rfl ?_)
      refine po_nil ?_
      exact ⟨⟨rfl, rfl, rfl, rfl, trivial⟩, rfl⟩
  clear tm0
  rintro tm bx nt live ⟨ht, hbx⟩
  simp only at hbx; subst hbx
  obtain ⟨tm0, rfl⟩ := has_ups ht
  clear ht
  refine mw_cond rfl (fun hc => ?_) (fun hc => ?_)
  · refine mw_seq (mw_ops ?_)
    refine po_q rfl rfl ?_
    refine po_store rfl rfl rfl ⟨rfl, Nat.le_of_ble_eq_true rfl⟩ rfl ?_
    refine po_nil ?_
    refine mw_ret ⟨.inr rfl, _, rfl, ?_⟩
    have : join1 (joinS N) a b = .mk 4 0 0 [] 0 [] := by unfold join1; rw [if_neg (ne_same hab), if_neg hkb, if_pos hc]
    rw [this]; rfl
  have hnil : ¬ (a.kind = 8 ∧ b.kind = 8) → join1 (joinS N) a b = shNil := by
    intro h8; unfold join1; rw [if_neg (ne_same hab), if_neg hkb, if_neg (by rw [hc]; decide), if_neg h8]
  refine mw_cut (fun s => has s.tm (J1F ++ [(60, .d (pB (decide (a.kind = 8) && decide (b.kind = 8))))]) ∧ s.bx = [shC a, shC b, zSh]) ?_ ?_
  · refine mw_ops ?_
    repeat' (first | refine po_skip rfl ?_ | refine po_bc rfl rfl (fun hb => ?_) (fun hb => ?_) | refine po_q rfl rfl ?_)
    all_goals
      refine po_nil ?_
      refine ⟨⟨rfl, rfl, rfl, ?_, trivial⟩, rfl⟩
      clear hJ hn hwa hwb hoa hob hB hnil hkb hc
      first
        | (have e1 : (decide (a.kind = 8) && decide (b.kind = 8)) = true := by simp_all
           rw [e1]; rfl)
        | (have e1 : (decide (a.kind = 8) && decide (b.kind = 8)) = false := by simp_all
           rw [e1]; rfl)
  clear tm0
  rintro tm bx nt live ⟨ht, hbx⟩
  simp only at hbx; subst hbx
  obtain ⟨tm0, rfl⟩ := has_ups ht
  clear ht
  refine mw_cond rfl (fun hc8 => ?_) (fun hc8 => ?_)
  · rw [Bool.and_eq_true, decide_eq_true_eq, decide_eq_true_eq] at hc8
    refine mw_seq (mw_ops ?_)
    iterate 2 (refine po_q rfl rfl ?_)
    refine po_call (shC_arg2 a b) (jmaps_fn hJ a b hn hwa hwb hoa hob hc8.1 hc8.2) ?_
    refine po_store (cs := shC (joinMaps (joinS N) a b)) rfl rfl rfl ⟨rfl, Nat.le_of_ble_eq_true rfl⟩ rfl ?_
    refine po_nil ?_
    refine mw_ret ⟨.inr rfl, _, rfl, ?_⟩
    rw [join1_maps hab hc8.1 hc8.2]; exact congrArg (fun l => some (PV.ag l)) (shC_er _)
  · refine mw_skip ?_
    refine mw_seq (mw_ops ?_)
    refine po_q rfl rfl ?_
    refine po_store rfl rfl rfl ⟨rfl, Nat.le_of_ble_eq_true rfl⟩ rfl ?_
    refine po_nil ?_
    refine mw_ret ⟨.inr rfl, _, rfl, ?_⟩
    rw [hnil (fun h => by rw [decide_eq_true h.1, decide_eq_true h.2] at hc8; cases hc8)]; rfl
end Go.Proofs.YtpknmldpdoadgaaDoor

/- impl.checkedShape, Join on values without memory. -/
namespace Go.Proofs.YtpknmldpdoadgaaDoor
open Go.RowKit
variable {T : World → Prop} {hT : Low ngl T}

theorem checked_fn (hTab : ∀ w, T w → Tabs w) (r : Sh) (hw : r.wf) (hb : r.bulk ≤ 4294967280) : FnO (env T hT) 25 [.ag (shC r)] (.ag (shC (if r.ok = true then r else shNil))) := by
  have hfr := oki_fn (T := T) (hT := hT) hTab r hw (by omega)
  generalize r.ok = ro at hfr ⊢
  refine fn_of (look_env lk_i_checkedShape) (by show 1 ≤ 9; decide) fun B hB => ?_
  unfold m_i_checkedShape
  refine mw_seq (mw_ops ?_)
  refine po_box rfl ?_
  refine po_zero ?_
  refine po_nil ?_
  refine mw_seq (mw_seq (mw_ops ?_))
  refine po_q rfl rfl ?_
  refine po_call (shC_arg r) hfr ?_
  refine po_q rfl rfl ?_
  refine po_nil ?_
  cases ro
  · refine mw_cond (t := true) rfl (fun _ => ?_) (fun h => absurd h (by decide))
    refine mw_seq (mw_ops ?_)
    refine po_q rfl rfl ?_
    refine po_store rfl rfl rfl ⟨rfl, Nat.le_of_ble_eq_true rfl⟩ rfl ?_
    refine po_nil ?_
    exact mw_ret ⟨.inr rfl, _, rfl, rfl, by show ([] : List Nat).Nodup; simp, fun t ht => absurd (show t ∈ ([] : List Nat) from ht) (by simp), rfl⟩
  · refine mw_cond (t := false) rfl (fun h => absurd h (by decide)) (fun _ => ?_)
    refine mw_skip ?_
    refine mw_seq (mw_ops ?_)
    refine po_q rfl rfl ?_
    refine po_sh (shC_arg r) (own_fn _ r (Nat.le_refl _) hb) ?_
    intro c0 c1 c2 c3 c4 c5 nt' hx hnt hN
    refine po_store rfl rfl rfl ⟨rfl, Nat.le_of_ble_eq_true rfl⟩ rfl ?_
    refine po_nil ?_
    exact mw_ret ⟨.inr rfl, _, rfl, congrArg (fun l => some (PV.ag l)) hx, hN.nd, fun t ht => List.mem_append.2 (.inl ht), hN.own⟩
theorem join1_bulk {f : Sh → Sh → Sh} (hf : GoodF f) {a b : Sh} (ha : a.wf) (hb : b.wf) (hoa : a.ok = true) (hob : b.ok = true) : (join1 f a b).bulk ≤ 4294967280 := by
  have ka := (Sh.ok_bulk hoa).1
  have kb := (Sh.ok_bulk hob).1
  unfold join1
  split
  · omega
  split
  · have h1 := headD_good ha ka
    have h2 := headD_good hb kb
    have h3 := hf _ _ h1.1 h2.1
    split
    · simp only [Sh.bulk, Sh.bulks, ssBulk, List.length_cons, List.length_nil]; omega
    · simp [Sh.bulk, Sh.bulks, ssBulk]
  split
  · simp [Sh.bulk, Sh.bulks, ssBulk]
  split
  · rename_i h
    obtain ⟨_, hla, _, _, hla1, hka1⟩ := ok_map hoa h.1
    obtain ⟨_, hlb, _, _, hlb1, hkb1⟩ := ok_map hob h.2
    have hlen : (jKeys a b).length ≤ 300 := by have := jKeys_len a b; omega
    have hk100 : ∀ k ∈ jKeys a b, k.length ≤ 100 := fun k hk => (jKeys_mem a b k hk).elim (hka1 k) (hkb1 k)
    have hkid := fun k => jKid_good hf ha hb ka kb k
    unfold joinMaps
    have h1 := ssBulk_le _ hk100
    have h2 := bulks_map_le (g := jKid f a b) (jKeys a b) fun k _ => (hkid k).2
    simp only [Sh.bulk, List.length_map]
    omega
  · have := shNil_good.2; omega
theorem joini_step (hTab : ∀ w, T w → Tabs w) {N : Nat} (hJ : JnQ T hT N) (a b : Sh) (hn : a.nodes ≤ N + 1) (hwa : a.wf) (hwb : b.wf) (hba : a.bulk ≤ 4294967280) (hbb : b.bulk ≤ 4294967280) :
    FnO (env T hT) 8 [.ag (shC a), .ag (shC b)] (.ag (shC (joinS (N + 1) a b))) := by
  have hj : joinS (N + 1) a b = if (a.ok && b.ok) = true then (if (join1 (joinS N) a b).ok = true then join1 (joinS N) a b else shNil) else shNil := rfl
  rw [hj]
  have hfa := oki_fn (T := T) (hT := hT) hTab a hwa (by omega)
  have hfb := oki_fn (T := T) (hT := hT) hTab b hwb (by omega)
  have hf1 := fun h1 h2 => joined_fn (T := T) (hT := hT) hJ a b hn hwa hwb h1 h2
  have hf2 := fun h1 h2 => checked_fn (T := T) (hT := hT) hTab (join1 (joinS N) a b) (join1_good (joinS_good N) (a := a) (b := b) hwa hwb h1 h2).1 (join1_bulk (joinS_good N) hwa hwb h1 h2)
  generalize a.ok = oa at hfa hf1 hf2 ⊢
  generalize b.ok = ob at hfb hf1 hf2 ⊢
  generalize join1 (joinS N) a b = r at hf1 hf2 ⊢
  refine fn_of (look_env lk_i_Join) (by show 2 ≤ 18; decide) fun B hB => ?_
  unfold m_i_Join
  refine mw_seq (mw_ops ?_)
  iterate 2 (refine po_box rfl ?_)
  refine po_zero ?_
  refine po_nil ?_
  refine mw_seq (mw_cut (fun s => has s.tm (J1F ++ [(12, .d (pB (!(oa && ob))))]) ∧ s.bx = [shC a, shC b, zSh] ∧ s.nt = 2 ∧ s.live = []) ?_ ?_)
  · refine mw_ops ?_
    refine po_q rfl rfl ?_
    refine po_call (shC_arg a) hfa ?_
    cases oa
    · repeat' (first | refine po_skip rfl ?_ | refine po_q rfl rfl ?_)
      refine po_nil ?_
      exact ⟨⟨rfl, rfl, rfl, rfl, trivial⟩, rfl, rfl, rfl⟩
    · iterate 3 (refine po_q rfl rfl ?_)
      refine po_gcall (b := true) rfl (fun _ => shC_arg b) (fun _ => hfb) ?_
      cases ob
      all_goals
        repeat' (first | refine po_skip rfl ?_ | refine po_q rfl rfl ?_)
        refine po_nil ?_
        exact ⟨⟨rfl, rfl, rfl, rfl, trivial⟩, rfl, rfl, rfl⟩
  rintro tm bx nt live ⟨ht, hbx, hnt9, hlv9⟩
  simp only at hbx hnt9 hlv9; subst hbx; subst hnt9; subst hlv9
  obtain ⟨tm0, rfl⟩ := has_ups ht
  clear ht
  refine mw_cond rfl (fun hc => ?_) (fun hc => ?_)
  · rw [if_neg (by rw [Bool.not_eq_true'] at hc; rw [hc]; decide)]
    refine mw_seq (mw_ops ?_)
    refine po_q rfl rfl ?_
    refine po_store rfl rfl rfl ⟨rfl, Nat.le_of_ble_eq_true rfl⟩ rfl ?_
    refine po_nil ?_
    exact mw_ret ⟨.inr rfl, _, rfl, rfl, by show ([] : List Nat).Nodup; simp, fun t ht => ht, rfl⟩
  rw [Bool.not_eq_false'] at hc
  rw [if_pos hc]
  rw [Bool.and_eq_true] at hc
  refine mw_skip ?_
  refine mw_seq (mw_ops ?_)
  iterate 2 (refine po_q rfl rfl ?_)
  refine po_call (shC_arg2 a b) (hf1 hc.1 hc.2) ?_
  refine po_sh (shC_arg r) (hf2 hc.1 hc.2) ?_
  intro c0 c1 c2 c3 c4 c5 nt' hx hnt hN
  refine po_store rfl rfl rfl ⟨rfl, Nat.le_of_ble_eq_true rfl⟩ rfl ?_
  refine po_nil ?_
  exact mw_ret ⟨.inr rfl, _, rfl, congrArg (fun l => some (PV.ag l)) hx, hN.nd, fun t ht => List.mem_append.2 (.inl ht), hN.own⟩
theorem joinQ_all (hTab : ∀ w, T w → Tabs w) : ∀ N, JnQ T hT N
  | 0 => fun a b hn => by obtain ⟨k, l, h, ks, m, kids⟩ := a; simp [Sh.nodes] at hn
  | N + 1 => fun a b hn hwa hwb hba hbb => joini_step hTab (joinQ_all hTab N) a b hn hwa hwb (by omega) (by omega)
/-- the program's Join -/
theorem join_impl (hTab : ∀ w, T w → Tabs w) (a b : Sh) (hwa : a.wf) (hwb : b.wf) (hba : a.bulk ≤ 4294967280) (hbb : b.bulk ≤ 4294967280) : FnO (env T hT) 8 [.ag (shC a), .ag (shC b)] (.ag (shC (joinS (a.nodes + 1) a b))) :=
  joini_step hTab (joinQ_all hTab a.nodes) a b (by omega) hwa hwb hba hbb
/-- the law's contracts of both -/
theorem joinS_old (hT : Low ngl T) (ng : ∀ w, T w → ngl ≤ w.heap.size) (a b : Sh) (cs ch : List Value) (w : World) (ha : Rd w a.d cs) (hb : Rd w b.d ch) (hwa : a.wf) (hwb : b.wf) (hba : a.bulk ≤ 1048576) (hbb : b.bulk ≤ 1048576) (hw : T w) :
    Calls Tryd.prog 6 #[.agg cs.toArray, .agg ch.toArray] w fun e w' => ∃ cs', e = .returned (.agg (List.toArray cs')) ∧ Own w.heap.size w' (joinS (a.nodes + 1) a b).d cs' ∧ Below w.heap.size w w' ∧ T w' := by
  have h := join_spec (T := T) (hT := hT) a b hwa hwb (by omega) (by omega)
  rw [← Sh.pc_eq, ← Sh.pc_eq, ← Sh.pc_eq] at h
  exact FnO.use h (Sh.wfd _) (ng w hw) hw (vs := [.agg cs.toArray, .agg ch.toArray]) rfl fun j x y hx hy => by
    match j with
    | 0 => simp at hx hy; subst hx; subst hy; exact rdV ha (Sh.wfd a)
    | 1 => simp at hx hy; subst hx; subst hy; exact rdV hb (Sh.wfd b)
    | j + 2 => simp at hx
theorem joinI_old (hT : Low ngl T) (hTab : ∀ w, T w → Tabs w) (ng : ∀ w, T w → ngl ≤ w.heap.size) (a b : Sh) (cs ch : List Value) (w : World) (ha : Rd w a.d cs) (hb : Rd w b.d ch) (hwa : a.wf) (hwb : b.wf) (hba : a.bulk ≤ 1048576) (hbb : b.bulk ≤ 1048576) (hw : T w) :
    Calls Tryd.prog 8 #[.agg cs.toArray, .agg ch.toArray] w fun e w' => ∃ cs', e = .returned (.agg (List.toArray cs')) ∧ Own w.heap.size w' (joinS (a.nodes + 1) a b).d cs' ∧ Below w.heap.size w w' ∧ T w' := by
  have h := join_impl (T := T) (hT := hT) hTab a b hwa hwb (by omega) (by omega)
  rw [← Sh.pc_eq, ← Sh.pc_eq, ← Sh.pc_eq] at h
  exact FnO.use h (Sh.wfd _) (ng w hw) hw (vs := [.agg cs.toArray, .agg ch.toArray]) rfl fun j x y hx hy => by
    match j with
    | 0 => simp at hx hy; subst hx; subst hy; exact rdV ha (Sh.wfd a)
    | 1 => simp at hx hy; subst hx; subst hy; exact rdV hb (Sh.wfd b)
    | j + 2 => simp at hx
end Go.Proofs.YtpknmldpdoadgaaDoor

/- Contracts of the program's Same: comparison of values. -/
namespace Go.Proofs.YtpknmldpdoadgaaDoor
open Go.RowKit

def VSmA (n : Nat) : Prop := ∀ (x y : V) (cs ds : List Value) (w : World), x.nodes ≤ n → Rd w x.d cs → Rd w y.d ds → x.bulk ≤ 4294967295 → y.bulk ≤ 4294967295 →
  Calls Tryd.prog 95 #[.agg cs.toArray, .agg ds.toArray] w fun e w' => e = .returned (.bool (decide (x = y))) ∧ Below w.heap.size w w'
def VSmB (n : Nat) : Prop := ∀ (x y : List V) (va vb : Value) (w : World), V.nodess x ≤ n → Rd w (.sl 5 (V.ds x)) [va] → Rd w (.sl 5 (V.ds y)) [vb] → x.length + V.bulks x ≤ 4294967295 → y.length + V.bulks y ≤ 4294967295 →
  Calls Tryd.prog 100 #[va, vb, .func (.func 95) #[] #[]] w fun e w' => e = .returned (.bool (decide (x = y))) ∧ Below w.heap.size w w'

set_option maxHeartbeats 800000 in
theorem VSmB_of {n : Nat} (hA : VSmA n) : VSmB n := by
  intro la lb va vb w hn h h2 hla hlb
  obtain ⟨a, c, rfl, hg⟩ := h.values
  obtain ⟨a', c', rfl, hg'⟩ := h2.values
  by_cases hlen : la.length = lb.length
  · have hlt : ((la.length : Int) != (lb.length : Int)) = false := by simp [hlen]
    have HL := Lib.hid hlen; clear hlen
    go_enter Tryd.func100, Tryd.ntmps100
    go_wp2
    go_loopw [17] (fun i wr => ∃ (k : Nat), k ≤ la.length ∧ i = .int .i64 k ∧ la.take k = lb.take k ∧ Below w.heap.size w wr) (fun i _ => la.length - (intOf i).toNat)
    case atStart => exact ⟨0, Nat.zero_le _, rfl, by simp, Below.refl _ _⟩
    case round =>
      obtain ⟨k, hk, rfl, htk, hbel⟩ := hrel
      have HT := Lib.hid htk; clear htk
      by_cases hk1 : k < la.length
      · have hk2 : k < lb.length := by have := HL.out; omega
        obtain ⟨_, _, b, o, rfl, hb, hcell⟩ := hg (by intro e; rw [e] at hk1; simp at hk1)
        obtain ⟨_, _, b', o', rfl, hb', hcell'⟩ := hg' (by intro e; rw [e] at hk2; simp at hk2)
        obtain ⟨v0, v1, v2, v3, v4, hr, c0, c1, c2, c3, c4⟩ := hcell k hk1
        obtain ⟨x0, x1, x2, x3, x4, hs, d0, d1, d2, d3, d4⟩ := hcell' k hk2
        obtain ⟨k1, k2, k3, s4, a6, n6, m6, hcs⟩ := V.form hr
        obtain ⟨j1, j2, j3, t4, b6, p6, q6, hds⟩ := V.form hs
        simp only [List.cons.injEq, and_true] at hcs hds
        obtain ⟨rfl, rfl, rfl, rfl, rfl⟩ := hcs
        obtain ⟨rfl, rfl, rfl, rfl, rfl⟩ := hds
        clear hcell hcell' hg hg'
        obtain ⟨hbc, _⟩ := bcell hbel
        have hsz := hbel.size
        have hi1 : (0 : Int) ≤ k := by omega
        have hi2 : (k : Int) < lb.length := by omega
        have hi3 : (k : Int) < la.length := by omega
        have hz1 : b < wr.heap.size := by omega
        have hz2 : b' < wr.heap.size := by omega
        have hnk := Nat.le_trans (V.nodes_get la k hk1) hn
        have hr' := hr.below hbel
        have hs' := hs.below hbel
        have hA2 := (hbel.alloc hsz (.cells #[.int .i64 k1, .int .i64 k2, .int .i64 k3, .string ⟨s4.toArray⟩, .slice a6 n6 m6] 42)).alloc (by simp; omega) (.cells #[.int .i64 j1, .int .i64 j2, .int .i64 j3, .string ⟨t4.toArray⟩, .slice b6 p6 q6] 42)
        by_cases he : la[k] = lb[k]
        · have hd := Lib.hid (decide_eq_true he)
          have HE := Lib.hid he
          clear he
          go_wp2_with (go_at_call 95; refine (hA _ _ _ _ _ hnk ((hr'.alloc _).alloc _) ((hs'.alloc _).alloc _) (V.bulk_get hla k hk1) (V.bulk_get hlb k hk2)).mono ?_; rw [hd.out]; rintro e w1 ⟨rfl, hb1⟩)
          go_roundw
          case rel => exact ⟨k + 1, by omega, by go_num, take_eq_snoc HT.out hk1 hk2 HE.out, below2 hA2 hb1 (Nat.le_refl _)⟩
          case measure => simp [intOf] <;> omega
        · have hd := Lib.hid (decide_eq_false he)
          have HE := Lib.hid (decide_eq_false (ne_of_get hk1 hk2 he))
          clear he
          go_wp2_with (go_at_call 95; refine (hA _ _ _ _ _ hnk ((hr'.alloc _).alloc _) ((hs'.alloc _).alloc _) (V.bulk_get hla k hk1) (V.bulk_get hlb k hk2)).mono ?_; rw [hd.out]; rintro e w1 ⟨rfl, hb1⟩)
          go_ret
          exact ⟨by rw [HE.out]; rfl, below2 hA2 hb1 (Nat.le_refl _)⟩
      · obtain rfl : k = la.length := by omega
        have he : la = lb := by have := HT.out; rw [List.take_length, HL.out, List.take_length] at this; exact this
        have H := Lib.hid (decide_eq_true he)
        clear he
        go_wp2
        go_ret
        exact ⟨by rw [H.out]; rfl, hbel⟩
  · have H := Lib.hid (decide_eq_false (show ¬ la = lb from fun e => hlen (by rw [e])))
    go_enter Tryd.func100, Tryd.ntmps100
    go_wp2
    go_ret
    exact ⟨by rw [H.out]; rfl, Below.refl _ _⟩

set_option maxHeartbeats 800000 in
theorem VSmA_of {n : Nat} (hB : VSmB n) : VSmA (n + 1) := by
  intro x y cs ds w hn h h2 hx hy
  obtain ⟨k, m, q, s, kids, v1, rfl, rfl, hkids⟩ := V.lay h
  obtain ⟨k', m', q', s', kids', v1', rfl, rfl, hkids'⟩ := V.lay h2
  have hnk : V.nodess kids ≤ n := by simp only [V.nodes] at hn; omega
  simp only [V.bulk] at hx hy
  have hA := ((Below.refl w.heap.size w).alloc (Nat.le_refl _) (.cells #[.int .i64 k, .int .i64 m, .int .i64 q, .string ⟨s.toArray⟩, v1] 42)).alloc (by simp) (.cells #[.int .i64 k', .int .i64 m', .int .i64 q', .string ⟨s'.toArray⟩, v1'] 42)
  by_cases e1 : k = k' ∧ m = m' ∧ q = q' ∧ s = s'
  · obtain ⟨rfl, rfl, rfl, rfl⟩ := e1
    go_enter Tryd.func95, Tryd.ntmps95
    go_wp2_with fail
    refine (hB _ _ _ _ _ hnk ((hkids.below hA)) (hkids'.below hA) (by omega) (by omega)).mono ?_
    by_cases e4 : kids = kids'
    · subst e4
      rw [decide_eq_true rfl]
      rintro e w2 ⟨rfl, hb2⟩
      go_wp2
      go_ret
      exact ⟨by simp, below2 hA hb2 (Nat.le_refl _)⟩
    · have H := Lib.hid (V.ne_mk (k := k) (m := m) (e := q) (s := s) (kids := kids) (k' := k) (m' := m) (e' := q) (s' := s) (kids' := kids') (by simp [e4]))
      rw [decide_eq_false e4]
      rintro e w2 ⟨rfl, hb2⟩
      clear e4
      go_wp2
      go_ret
      exact ⟨by rw [H.out]; rfl, below2 hA hb2 (Nat.le_refl _)⟩
  · have H := Lib.hid (V.ne_mk (k := k) (m := m) (e := q) (s := s) (kids := kids) (k' := k') (m' := m') (e' := q') (s' := s') (kids' := kids') (by rintro ⟨a, b, c, d, _⟩; exact e1 ⟨a, b, c, d⟩))
    have HA := Lib.hid hA
    by_cases c1 : k = k'
    · subst c1
      by_cases c2 : m = m'
      · subst c2
        by_cases c3 : q = q'
        · subst c3
          have c4 : (s == s') = false := by simpa using fun c => e1 ⟨rfl, rfl, rfl, c⟩
          clear e1
          go_enter Tryd.func95, Tryd.ntmps95
          go_wp2_with fail
          go_ret
          exact ⟨by rw [H.out]; rfl, HA.out⟩
        · clear e1
          have c4 : (q == q') = false := by simpa using c3
          go_enter Tryd.func95, Tryd.ntmps95
          go_wp2_with fail
          go_ret
          exact ⟨by rw [H.out]; rfl, HA.out⟩
      · clear e1
        have c4 : (m == m') = false := by simpa using c2
        go_enter Tryd.func95, Tryd.ntmps95
        go_wp2_with fail
        go_ret
        exact ⟨by rw [H.out]; rfl, HA.out⟩
    · clear e1
      have c4 : (k == k') = false := by simpa using c1
      go_enter Tryd.func95, Tryd.ntmps95
      go_wp2_with fail
      go_ret
      exact ⟨by rw [H.out]; rfl, HA.out⟩
theorem VSm_all : ∀ n, VSmA n
  | 0 => fun x y cs ds w hn => absurd x.nodes_pos (by omega)
  | n + 1 => VSmA_of (VSmB_of (VSm_all n))
theorem same_any (x y : V) (cs ds : List Value) (w : World) (h : Rd w x.d cs) (h2 : Rd w y.d ds) (hx : x.bulk ≤ 4294967295) (hy : y.bulk ≤ 4294967295) :
    Calls Tryd.prog 95 #[.agg cs.toArray, .agg ds.toArray] w fun e w' => e = .returned (.bool (decide (x = y))) ∧ Below w.heap.size w w' := VSm_all x.nodes x y cs ds w (Nat.le_refl _) h h2 hx hy
end Go.Proofs.YtpknmldpdoadgaaDoor

/- Whether the kids of a value are as many as they may be, and its keys right: the program's isKey and areKids. -/
namespace Go.Proofs.YtpknmldpdoadgaaDoor
open Go.RowKit

set_option maxHeartbeats 400000 in
theorem isKey_any (x : V) (cs : List Value) (w : World) (h : Rd w x.d cs) :
    Calls Tryd.prog 94 #[.agg cs.toArray] w fun e w' => e = .returned (.bool (isKeyK x.kind)) ∧ Below w.heap.size w w' := by
  obtain ⟨k, m, e, s, kids, v1, rfl, rfl, hkids⟩ := V.lay h
  have HA := Lib.hid ((Below.refl w.heap.size w).alloc (Nat.le_refl _) (.cells #[.int .i64 k, .int .i64 m, .int .i64 e, .string ⟨s.toArray⟩, v1] 42))
  clear h hkids
  show Calls _ _ _ _ fun e' w' => e' = .returned (.bool (isKeyK k)) ∧ _
  by_cases h5 : k = 5
  · subst h5
    go_enter Tryd.func94, Tryd.ntmps94
    go_wp2
    go_ret
    exact ⟨rfl, HA.out⟩
  · have g5 : (k == 5) = false := by simpa using h5
    have H := Lib.hid (show isKeyK k = (k == 3) by unfold isKeyK; rw [decide_eq_false h5, Bool.false_or]; rfl)
    go_enter Tryd.func94, Tryd.ntmps94
    go_wp2
    go_ret
    exact ⟨by rw [H.out]; rfl, HA.out⟩

/-- as many kids as a value of this kind may have, keys right -/
def V.kidsOk (k : Int) (kids : List V) : Bool :=
  if k = 7 then true else if k = 9 then decide (kids.length = 1) else if k = 8 then pairsOkI kids else decide (kids = [])

theorem len0' (l : List V) : ((l.length : Int) == 0) = decide (l = []) := by
  cases l with
  | nil => rfl
  | cons a r => simp; omega

set_option maxHeartbeats 4000000 in
set_option maxRecDepth 10000 in
theorem areKids_any (x : V) (cs : List Value) (w : World) (h : Rd w x.d cs) (hbk : x.bulk ≤ 4294967295) :
    Calls Tryd.prog 78 #[.agg cs.toArray] w fun e w' => e = .returned (.bool (V.kidsOk x.kind x.kids)) ∧ Below w.heap.size w w' := by
  obtain ⟨q, n, e, s, xs, v1, rfl, rfl, hkids⟩ := V.lay h
  have hkb : xs.length + V.bulks xs ≤ 4294967295 := by simp only [V.bulk] at hbk; omega
  obtain ⟨a, c, rfl, hg⟩ := hkids.values
  show Calls _ _ _ _ fun e' w' => e' = .returned (.bool (V.kidsOk q xs)) ∧ _
  obtain ⟨ok, hok⟩ : ∃ ok, V.kidsOk q xs = ok := ⟨_, rfl⟩
  rw [hok]
  have HOK := Lib.hid hok; clear hok
  obtain ⟨W0, hW0⟩ : ∃ W0, W0 = w.alloc (.cells #[.int .i64 q, .int .i64 n, .int .i64 e, .string ⟨s.toArray⟩, .slice a xs.length c] 42) := ⟨_, rfl⟩
  have HW := Lib.hid hW0
  have hA0 : Below w.heap.size w W0 := by rw [hW0]; exact (Below.refl _ _).alloc (Nat.le_refl _) _
  have hz : w.heap.size < W0.heap.size := by rw [hW0]; simp
  have KB : Hid (∀ W, Below W0.heap.size W0 W → W.cell? ⟨w.heap.size, 0, none⟩ = some (.int .i64 q) ∧ W.cell? ⟨w.heap.size, 4, none⟩ = some (.slice a xs.length c)) := by
    intro W hb
    obtain ⟨hc, _⟩ := bcell hb
    simp only [hc _ _ hz]; subst hW0; simp
  clear hW0 h hkids hbk
  obtain ⟨f0, f4⟩ := KB.out _ (Below.refl _ _)
  by_cases q7 : q = 7
  · subst q7
    have H := Lib.hid (show ok = true by rw [← HOK.out]; rfl)
    go_enter Tryd.func78, Tryd.ntmps78
    go_wp2
    rw [← HW.out]
    go_ret
    exact ⟨by rw [H.out]; rfl, hA0⟩
  by_cases q9 : q = 9
  · subst q9
    have H := Lib.hid (show ok = decide (xs.length = 1) by rw [← HOK.out]; rfl)
    go_enter Tryd.func78, Tryd.ntmps78
    go_wp2
    rw [← HW.out]
    go_ret
    exact ⟨by rw [H.out]; exact ret_bool (by rw [Bool.eq_iff_iff]; simp; omega), hA0⟩
  by_cases q8 : q = 8
  · subst q8
    have HP := Lib.hid (show ok = pairsOkI xs by rw [← HOK.out]; rfl)
    obtain ⟨ks, hks⟩ : ∃ ks, odds xs = ks := ⟨_, rfl⟩
    have hkl : ks.length = (xs.length + 1) / 2 := by rw [← hks, odds_length]
    have HKG : Hid (∀ j (h1 : 2 * j < xs.length) (h2 : j < ks.length), ks[j] = xs[2 * j]) := by
      intro j h1 h2; subst hks; exact odds_get xs j h1
    have HKS := Lib.hid hks; clear hks
    clear q7 q9
    go_enter Tryd.func78, Tryd.ntmps78
    go_wp2
    rw [← HW.out]
    go_loopw [3] (fun i wr => ∃ (j k : Nat), k = 2 * j ∧ j ≤ ks.length ∧ i = .int .i64 k ∧ uniq id (ks.take j) = true ∧ Below W0.heap.size W0 wr) (fun i _ => xs.length + 1 - (intOf i).toNat)
    case atStart => exact ⟨0, 0, rfl, Nat.zero_le _, rfl, by simp [uniq], Below.refl _ _⟩
    case round =>
      obtain ⟨j, k, hkj, hj, rfl, hu, hbel⟩ := hrel
      have HKJ := Lib.hid hkj
      have HU := Lib.hid hu; clear hu f0 f4
      obtain ⟨f0, f4⟩ := KB.out _ hbel
      have hbw := below2 hA0 hbel (Nat.le_refl _)
      by_cases hlt : k < xs.length
      · have hjk : j < ks.length := by omega
        have hkk := HKG.out j (by omega) hjk
        obtain ⟨_, _, b, o, rfl, hb, hcell⟩ := hg (by intro e; rw [e] at hlt; simp at hlt)
        have HC := Lib.hid hcell
        obtain ⟨v0, v1, v2, v3, v4, hr, d0, d1, d2, d3, d4⟩ := hcell k hlt
        clear hcell
        obtain ⟨k1, k2, k3, s4, a6, n6, m6, hcs⟩ := V.form hr
        simp only [List.cons.injEq, and_true] at hcs
        obtain ⟨rfl, rfl, rfl, rfl, rfl⟩ := hcs
        have hbc := (bcell hbw).1
        rw [← hbc _ _ hb] at d0 d1 d2 d3 d4
        have HX := Lib.hid (show ks[j] = xs[k] by rw [hkk]; subst hkj; rfl)
        have hi1 : (0 : Int) ≤ k := by omega
        have hi3 : (k : Int) < xs.length := by omega
        have hbz : b < W0.heap.size := by have := hA0.size; omega
        have HD : Hid (∀ W, Below W0.heap.size W0 W → W.cell? ⟨b, o + k * 5, none⟩ = some (.int .i64 k1) ∧ W.cell? ⟨b, o + k * 5 + 1, none⟩ = some (.int .i64 k2) ∧ W.cell? ⟨b, o + k * 5 + 2, none⟩ = some (.int .i64 k3) ∧ W.cell? ⟨b, o + k * 5 + 3, none⟩ = some (.string ⟨s4.toArray⟩) ∧ W.cell? ⟨b, o + k * 5 + 4, none⟩ = some (.slice a6 n6 m6)) := by
          intro W hW
          have h1 := (bcell hW).1
          have h2 := (bcell hbel).1
          rw [h2 _ _ hbz] at d0 d1 d2 d3 d4
          simp only [h1 _ _ hbz]; exact ⟨d0, d1, d2, d3, d4⟩
        have HK1 := Lib.hid (fun W (hW : Below W0.heap.size W0 W) => isKey_any xs[k] _ W (hr.below (below2 hA0 hW (Nat.le_refl _))))
        have HXR := Lib.hid (fun W (hW : Below W0.heap.size W0 W) => (hr.below (below2 hA0 hW (Nat.le_refl _))))
        clear hbc hkk hkj hr
        cases hkey : isKeyK xs[k].kind with
        | true =>
          have HK := Lib.hid hkey; clear hkey
          go_wp2_with (go_at_call 94; refine (HK1.out _ hbel).mono ?_; rw [HK.out]; rintro e w1 ⟨rfl, hb1⟩; have hbe1 := below2 hbel hb1 (Nat.le_refl _); clear d0 d1 d2 d3 d4 f0 f4; obtain ⟨f0, f4⟩ := KB.out _ hbe1)
          go_loopw [4] (fun i wr => ∃ (m r : Nat), r = 2 * m ∧ m ≤ j ∧ i = .int .i64 r ∧ xs[k] ∉ ks.take m ∧ Below W0.heap.size W0 wr) (fun i _ => k + 1 - (intOf i).toNat)
          case atStart => exact ⟨0, 0, rfl, Nat.zero_le _, rfl, by simp, hbe1⟩
          case round =>
            obtain ⟨m, r, hrm, hm, rfl, hni, hbel2⟩ := hrel
            have HRM := Lib.hid hrm
            have HNI := Lib.hid hni; clear hni
            have hkj := HKJ.out
            have hbw2 := below2 hA0 hbel2 (Nat.le_refl _)
            clear f0 f4
            obtain ⟨f0, f4⟩ := KB.out _ hbel2
            by_cases hml : r < k
            · have hrx : r < xs.length := by omega
              have hmk : m < ks.length := by omega
              have hmm := HKG.out m (by omega) hmk
              obtain ⟨u0, u1, u2, u3, u4, hr2, e0, e1, e2, e3, e4⟩ := HC.out r hrx
              obtain ⟨y1, y2, y3, t4, b6, p6, r6, hcs2⟩ := V.form hr2
              simp only [List.cons.injEq, and_true] at hcs2
              obtain ⟨rfl, rfl, rfl, rfl, rfl⟩ := hcs2
              have HY := Lib.hid (show ks[m] = xs[r] by rw [hmm]; subst hrm; rfl)
              have HE : Hid (∀ W, Below W0.heap.size W0 W → W.cell? ⟨b, o + r * 5, none⟩ = some (.int .i64 y1) ∧ W.cell? ⟨b, o + r * 5 + 1, none⟩ = some (.int .i64 y2) ∧ W.cell? ⟨b, o + r * 5 + 2, none⟩ = some (.int .i64 y3) ∧ W.cell? ⟨b, o + r * 5 + 3, none⟩ = some (.string ⟨t4.toArray⟩) ∧ W.cell? ⟨b, o + r * 5 + 4, none⟩ = some (.slice b6 p6 r6)) := by
                intro W hW
                have h1 := (bcell (below2 hA0 hW (Nat.le_refl _))).1
                simp only [h1 _ _ hb]; exact ⟨e0, e1, e2, e3, e4⟩
              have hj1 : (0 : Int) ≤ r := by omega
              have hj3 : (r : Int) < xs.length := by omega
              have hj5 : (r : Int) < k := by omega
              have hm5 : m < j := by omega
              have hr5 : r + 2 < k + 3 := by omega
              have HS := Lib.hid (fun W (hW : Below W0.heap.size W0 W) => same_any xs[k] xs[r] _ _ W (HXR.out W hW) (hr2.below (below2 hA0 hW (Nat.le_refl _))) (V.bulk_get hkb k hlt) (V.bulk_get hkb r hrx))
              have hB := hbel2
              clear hmm hrm hkj e0 e1 e2 e3 e4 hr2 f0 f4
              by_cases heq : xs[k] = xs[r]
              · have HQ := Lib.hid (decide_eq_true heq)
                have HF := Lib.hid (show ok = false by
                  rw [HP.out]; unfold pairsOkI; rw [HKS.out, uniq_bad2 hjk (by
                    rw [HX.out, List.map_id]
                    exact List.mem_take_iff_getElem.2 ⟨m, by omega, by rw [HY.out, ← heq]; rfl⟩)]; rfl)
                clear heq
                go_wp2_with fail
                go_region_held3 (fun W => (W.cell? ⟨w.heap.size, 0, none⟩ = some (.int .i64 8) ∧ W.cell? ⟨w.heap.size, 4, none⟩ = some (.slice (some ⟨b, o, none⟩) xs.length c)) ∧ (W.cell? ⟨b, o + k * 5, none⟩ = some (.int .i64 k1) ∧ W.cell? ⟨b, o + k * 5 + 1, none⟩ = some (.int .i64 k2) ∧ W.cell? ⟨b, o + k * 5 + 2, none⟩ = some (.int .i64 k3) ∧ W.cell? ⟨b, o + k * 5 + 3, none⟩ = some (.string ⟨s4.toArray⟩) ∧ W.cell? ⟨b, o + k * 5 + 4, none⟩ = some (.slice a6 n6 m6)) ∧ W.cell? ⟨b, o + r * 5, none⟩ = some (.int .i64 y1) ∧ W.cell? ⟨b, o + r * 5 + 1, none⟩ = some (.int .i64 y2) ∧ W.cell? ⟨b, o + r * 5 + 2, none⟩ = some (.int .i64 y3) ∧ W.cell? ⟨b, o + r * 5 + 3, none⟩ = some (.string ⟨t4.toArray⟩) ∧ W.cell? ⟨b, o + r * 5 + 4, none⟩ = some (.slice b6 p6 r6))
                  (first | exact ⟨KB.out _ hB, HD.out _ hB, HE.out _ hB⟩ | exact ⟨KB.out _ hB.drew, HD.out _ hB.drew, HE.out _ hB.drew⟩)
                  (first | (go_at_call 95; with_reducible refine (HS.out _ (by first | exact hB | exact hB.drew)).mono ?_; rw [HQ.out]; rintro e w2 ⟨rfl, hb2⟩; replace hB := below2 (by first | exact hB | exact hB.drew) hb2 (Nat.le_refl _)))
                go_wp2
                go_ret
                exact ⟨by rw [HF.out]; rfl, below2 hA0 hB (Nat.le_refl _)⟩
              · have HQ := Lib.hid (decide_eq_false heq)
                have HM : Hid (xs[k] ∉ ks.take (m + 1)) := by
                  show _ ∉ _
                  rw [List.take_succ_eq_append_getElem hmk, List.mem_append, HY.out]
                  rintro (h | h)
                  · exact HNI.out h
                  · exact heq (by simpa using h)
                clear heq
                go_wp2_with fail
                go_region_held3 (fun W => (W.cell? ⟨w.heap.size, 0, none⟩ = some (.int .i64 8) ∧ W.cell? ⟨w.heap.size, 4, none⟩ = some (.slice (some ⟨b, o, none⟩) xs.length c)) ∧ (W.cell? ⟨b, o + k * 5, none⟩ = some (.int .i64 k1) ∧ W.cell? ⟨b, o + k * 5 + 1, none⟩ = some (.int .i64 k2) ∧ W.cell? ⟨b, o + k * 5 + 2, none⟩ = some (.int .i64 k3) ∧ W.cell? ⟨b, o + k * 5 + 3, none⟩ = some (.string ⟨s4.toArray⟩) ∧ W.cell? ⟨b, o + k * 5 + 4, none⟩ = some (.slice a6 n6 m6)) ∧ W.cell? ⟨b, o + r * 5, none⟩ = some (.int .i64 y1) ∧ W.cell? ⟨b, o + r * 5 + 1, none⟩ = some (.int .i64 y2) ∧ W.cell? ⟨b, o + r * 5 + 2, none⟩ = some (.int .i64 y3) ∧ W.cell? ⟨b, o + r * 5 + 3, none⟩ = some (.string ⟨t4.toArray⟩) ∧ W.cell? ⟨b, o + r * 5 + 4, none⟩ = some (.slice b6 p6 r6))
                  (first | exact ⟨KB.out _ hB, HD.out _ hB, HE.out _ hB⟩ | exact ⟨KB.out _ hB.drew, HD.out _ hB.drew, HE.out _ hB.drew⟩)
                  (first | (go_at_call 95; with_reducible refine (HS.out _ (by first | exact hB | exact hB.drew)).mono ?_; rw [HQ.out]; rintro e w2 ⟨rfl, hb2⟩; replace hB := below2 (by first | exact hB | exact hB.drew) hb2 (Nat.le_refl _)))
                go_wp2
                go_roundw
                case rel => exact ⟨m + 1, r + 2, by have := HRM.out; omega, by omega, by go_num, HM.out, hB⟩
                case measure => simp [intOf]; omega
            · obtain rfl : m = j := by omega
              have HM : Hid (uniq id (ks.take (m + 1)) = true) := uniq_more hjk HU.out (by rw [HX.out]; exact HK.out) (by rw [HX.out, List.map_id]; exact HNI.out)
              clear hrm hkj
              go_wp2
              go_roundw
              case rel => exact ⟨m + 1, k + 2, by have := HKJ.out; omega, by omega, by go_num, HM.out, hbel2⟩
              case measure => simp [intOf]; omega
        | false =>
          have HK := Lib.hid hkey
          have HF := Lib.hid (show ok = false by rw [HP.out]; unfold pairsOkI; rw [HKS.out, uniq_bad1 hjk (by rw [HX.out]; exact hkey)]; rfl)
          clear hkey
          go_wp2_with (go_at_call 94; refine (HK1.out _ hbel).mono ?_; rw [HK.out]; rintro e w1 ⟨rfl, hb1⟩)
          go_ret
          exact ⟨by rw [HF.out]; rfl, below2 hbw hb1 (Nat.le_refl _)⟩
      · obtain rfl : j = ks.length := by omega
        clear hkj
        have h1 := HU.out
        rw [List.take_length] at h1
        have HF := Lib.hid (show ok = decide (xs.length % 2 = 0) by rw [HP.out]; unfold pairsOkI; rw [HKS.out, h1]; rfl)
        clear h1
        go_wp2
        go_ret
        exact ⟨by rw [HF.out]; exact ret_bool (by rw [Bool.eq_iff_iff]; simp <;> omega), hbw⟩
  · have H := Lib.hid (show ok = decide (xs = []) by rw [← HOK.out]; unfold V.kidsOk; rw [if_neg q7, if_neg q9, if_neg q8])
    have g7 : (q == 7) = false := by simpa using q7
    have g8 : (q == 8) = false := by simpa using q8
    have g9 : (q == 9) = false := by simpa using q9
    go_enter Tryd.func78, Tryd.ntmps78
    go_wp2
    rw [← HW.out]
    go_ret
    exact ⟨by rw [H.out, ← len0']; rfl, hA0⟩
end Go.Proofs.YtpknmldpdoadgaaDoor

/- Whether a value is right but for its kids: the program's isNode. -/
namespace Go.Proofs.YtpknmldpdoadgaaDoor
open Go.RowKit
open Go.Lib (validD)

/-- right but for the kids, of a value of this kind -/
def V.node : V → Bool
  | .mk k n e s _ =>
    if k = 0 ∨ k = 1 ∨ k = 2 ∨ k = 7 ∨ k = 8 then decide (n = 0) && (decide (e = 0) && decide (s = []))
    else if k = 3 then decide (e = 0) && decide (s = [])
    else if k = 4 then decOk n e && decide (s = [])
    else if k = 5 then decide (s.length ≤ 2000) && (validD s && (decide (n = 0) && decide (e = 0)))
    else if k = 6 then decide (s.length ≤ 2000) && (decide (n = 0) && decide (e = 0))
    else if k = 9 then inR n 0 1000000 && (decide (e = 0) && decide (s = []))
    else false
theorem V.selfI_node (x : V) : x.selfI = (x.node && V.kidsOk x.kind x.kids) := by
  obtain ⟨k, n, e, s, kids⟩ := x
  show V.selfBy pairsOkI _ = (_ && V.kidsOk k kids)
  unfold V.node V.kidsOk V.selfBy
  by_cases h0 : k = 0 ∨ k = 1 ∨ k = 2
  · rcases h0 with rfl | rfl | rfl <;> simp [Bool.and_assoc]
  by_cases h3 : k = 3
  · subst h3; simp [Bool.and_assoc]
  by_cases h4 : k = 4
  · subst h4; simp [Bool.and_assoc]
  by_cases h5 : k = 5
  · subst h5
    show (decide (n = 0) && (decide (e = 0) && (validD s && (decide (s.length ≤ 2000) && decide (kids = []))))) = ((decide (s.length ≤ 2000) && (validD s && (decide (n = 0) && decide (e = 0)))) && decide (kids = []))
    cases decide (n = 0) <;> cases decide (e = 0) <;> cases validD s <;> cases decide (s.length ≤ 2000) <;> cases decide (kids = []) <;> rfl
  by_cases h6 : k = 6
  · subst h6
    show (decide (n = 0) && (decide (e = 0) && (decide (s.length ≤ 2000) && decide (kids = [])))) = ((decide (s.length ≤ 2000) && (decide (n = 0) && decide (e = 0))) && decide (kids = []))
    cases decide (n = 0) <;> cases decide (e = 0) <;> cases decide (s.length ≤ 2000) <;> cases decide (kids = []) <;> rfl
  by_cases h7 : k = 7
  · subst h7; simp
  by_cases h8 : k = 8
  · subst h8; simp [Bool.and_assoc]
  by_cases h9 : k = 9
  · subst h9; simp [Bool.and_assoc]
  · have a0 : k ≠ 0 := fun e => h0 (.inl e)
    have a1 : k ≠ 1 := fun e => h0 (.inr (.inl e))
    have a2 : k ≠ 2 := fun e => h0 (.inr (.inr e))
    simp [a0, a1, a2, h3, h4, h5, h6, h7, h8, h9]

set_option maxHeartbeats 4000000 in
set_option maxRecDepth 10000 in
theorem isNode_any (x : V) (cs : List Value) (w : World) (h : Rd w x.d cs) (hwf : x.wf) (hbk : x.bulk ≤ 4294967295) (hT : Tabs w) :
    Calls Tryd.prog 77 #[.agg cs.toArray] w fun e w' => e = .returned (.bool x.node) ∧ Below w.heap.size w w' := by
  obtain ⟨k, n, e, s, kids, v1, rfl, rfl, hkids⟩ := V.lay h
  obtain ⟨a1, c1, rfl⟩ := Rd.sl_form hkids
  rw [V.ds_map, List.length_map] at h ⊢
  have hsl : s.length ≤ 4294967295 := by simp only [V.bulk] at hbk; omega
  have HD := Lib.hid (fun w1 (hb : Below w.heap.size w w1) => isDec_any _ _ w1 (h.below hb) hwf)
  clear h hkids hbk hwf
  obtain ⟨ok, hok⟩ : ∃ ok, V.node (.mk k n e s kids) = ok := ⟨_, rfl⟩
  rw [hok]
  have HOK := Lib.hid hok; clear hok
  by_cases q0 : k = 0
  · subst q0
    go_enter Tryd.func77, Tryd.ntmps77
    go_wp2
    all_goals (go_ret; refine ⟨ret_bool ?_, by first | exact ((Below.refl _ _).alloc (Nat.le_refl _) _).alloc (by simp) _ | exact below_drewN (((Below.refl _ _).alloc (Nat.le_refl _) _).alloc (by simp) _) _⟩; rw [← HOK.out]; simp_all [V.node, isE])
  by_cases q1 : k = 1
  · subst q1
    go_enter Tryd.func77, Tryd.ntmps77
    go_wp2
    all_goals (go_ret; refine ⟨ret_bool ?_, by first | exact ((Below.refl _ _).alloc (Nat.le_refl _) _).alloc (by simp) _ | exact below_drewN (((Below.refl _ _).alloc (Nat.le_refl _) _).alloc (by simp) _) _⟩; rw [← HOK.out]; simp_all [V.node, isE])
  by_cases q2 : k = 2
  · subst q2
    go_enter Tryd.func77, Tryd.ntmps77
    go_wp2
    all_goals (go_ret; refine ⟨ret_bool ?_, by first | exact ((Below.refl _ _).alloc (Nat.le_refl _) _).alloc (by simp) _ | exact below_drewN (((Below.refl _ _).alloc (Nat.le_refl _) _).alloc (by simp) _) _⟩; rw [← HOK.out]; simp_all [V.node, isE])
  by_cases q7 : k = 7
  · subst q7
    go_enter Tryd.func77, Tryd.ntmps77
    go_wp2
    all_goals (go_ret; refine ⟨ret_bool ?_, by first | exact ((Below.refl _ _).alloc (Nat.le_refl _) _).alloc (by simp) _ | exact below_drewN (((Below.refl _ _).alloc (Nat.le_refl _) _).alloc (by simp) _) _⟩; rw [← HOK.out]; simp_all [V.node, isE])
  by_cases q8 : k = 8
  · subst q8
    go_enter Tryd.func77, Tryd.ntmps77
    go_wp2
    all_goals (go_ret; refine ⟨ret_bool ?_, by first | exact ((Below.refl _ _).alloc (Nat.le_refl _) _).alloc (by simp) _ | exact below_drewN (((Below.refl _ _).alloc (Nat.le_refl _) _).alloc (by simp) _) _⟩; rw [← HOK.out]; simp_all [V.node, isE])
  by_cases q3 : k = 3
  · subst q3
    go_enter Tryd.func77, Tryd.ntmps77
    go_wp2
    all_goals (go_ret; refine ⟨ret_bool ?_, by first | exact ((Below.refl _ _).alloc (Nat.le_refl _) _).alloc (by simp) _ | exact below_drewN (((Below.refl _ _).alloc (Nat.le_refl _) _).alloc (by simp) _) _⟩; rw [← HOK.out]; simp_all [V.node, isE])
  by_cases q9 : k = 9
  · subst q9
    by_cases g : 0 ≤ n ∧ n ≤ 1000000
    · have H := Lib.hid (show ok = (decide (e = 0) && decide (s = [])) by rw [← HOK.out]; simp [V.node, inR_yes g])
      go_enter Tryd.func77, Tryd.ntmps77
      go_wp2
      all_goals (go_ret; refine ⟨ret_bool ?_, by first | exact ((Below.refl _ _).alloc (Nat.le_refl _) _).alloc (by simp) _ | exact (((Below.refl _ _).alloc (Nat.le_refl _) _).alloc (by simp) _).setCell (by simp) _⟩; rw [H.out]; simp_all [isE])
    · have H := Lib.hid (show ok = false by rw [← HOK.out]; simp [V.node, inR_no g])
      have H2 := Lib.hid (inR_no g)
      go_enter Tryd.func77, Tryd.ntmps77
      go_wp2_with (go_at_call 83; refine (within_any _ _ _ _).mono ?_; rw [H2.out]; rintro e1 w1 ⟨rfl, rfl⟩)
      all_goals (go_ret; exact ⟨by rw [H.out]; rfl, ((Below.refl _ _).alloc (Nat.le_refl _) _).alloc (by simp) _⟩)
  by_cases q6 : k = 6
  · subst q6
    by_cases g : s.length ≤ 2000
    · have H := Lib.hid (show ok = (decide (n = 0) && decide (e = 0)) by rw [← HOK.out]; simp [V.node, g])
      go_enter Tryd.func77, Tryd.ntmps77
      go_wp2
      all_goals (go_ret; refine ⟨ret_bool ?_, by first | exact ((Below.refl _ _).alloc (Nat.le_refl _) _).alloc (by simp) _ | exact (((Below.refl _ _).alloc (Nat.le_refl _) _).alloc (by simp) _).setCell (by simp) _⟩; rw [H.out]; simp_all [isE])
    · have H := Lib.hid (show ok = false by rw [← HOK.out]; simp [V.node, g])
      have g' : (2000 : Int) < s.length := by omega
      go_enter Tryd.func77, Tryd.ntmps77
      go_wp2
      all_goals (go_ret; exact ⟨by rw [H.out]; rfl, ((Below.refl _ _).alloc (Nat.le_refl _) _).alloc (by simp) _⟩)
  by_cases q5 : k = 5
  · subst q5
    by_cases g : s.length ≤ 2000
    · have g' : ¬ (2000 : Int) < s.length := by omega
      have g2 := decide_eq_false g'
      cases hv : validD s with
      | true =>
        have HV := Lib.hid hv
        have H := Lib.hid (show ok = (decide (n = 0) && decide (e = 0)) by rw [← HOK.out]; simp [V.node, g, hv])
        clear hv
        go_enter Tryd.func77, Tryd.ntmps77
        go_wp2_with (go_at_call 93; refine (textOk_impl s _ hsl (hT.below (((Below.refl _ _).alloc (Nat.le_refl _) _).alloc (by simp) _))).mono ?_; rw [HV.out]; rintro e1 w1 ⟨rfl, hb1⟩; have C := (bcell hb1).1; have F := (bcell hb1).2; have hz1 := hb1.size; have z1 : w.heap.size < w1.heap.size := (by simp at hz1; omega); have z2 : w.heap.size + 1 < w1.heap.size := (by simp at hz1; omega); have f1 : w1.cell? ⟨w.heap.size, 1, none⟩ = some (.int .i64 n) := (by rw [C _ _ (by simp <;> omega)]; simp [go_sem]); have f2 : w1.cell? ⟨w.heap.size, 2, none⟩ = some (.int .i64 e) := (by rw [C _ _ (by simp <;> omega)]; simp [go_sem]); have f3 : w1.cell? ⟨w.heap.size, 3, none⟩ = some (.string ⟨s.toArray⟩) := (by rw [C _ _ (by simp <;> omega)]; simp [go_sem]); have p1 : w1.cell? ⟨w.heap.size + 1, 1, none⟩ = some (.int .i64 0) := (by rw [C _ _ (by simp <;> omega)]; simp [go_sem]); have p2 : w1.cell? ⟨w.heap.size + 1, 2, none⟩ = some (.int .i64 0) := (by rw [C _ _ (by simp <;> omega)]; simp [go_sem]); have p3 : w1.cell? ⟨w.heap.size + 1, 3, none⟩ = some (.string ⟨#[]⟩) := (by rw [C _ _ (by simp <;> omega)]; simp [go_sem]); have p9 : w1.frozen? ⟨w.heap.size + 1, 3, none⟩ = false := (by rw [F _ _ (by simp <;> omega)]; simp [go_sem]); clear C F hz1)
        all_goals (go_ret; refine ⟨ret_bool ?_, by first | exact (below2 (((Below.refl _ _).alloc (Nat.le_refl _) _).alloc (by simp) _) hb1 (Nat.le_refl _)).setCell (by simp) _ | exact below2 (((Below.refl _ _).alloc (Nat.le_refl _) _).alloc (by simp) _) hb1 (Nat.le_refl _)⟩; rw [H.out]; simp_all [isE])
      | false =>
        have HV := Lib.hid hv
        have H := Lib.hid (show ok = false by rw [← HOK.out]; simp [V.node, hv])
        clear hv
        go_enter Tryd.func77, Tryd.ntmps77
        go_wp2_with (go_at_call 93; refine (textOk_impl s _ hsl (hT.below (((Below.refl _ _).alloc (Nat.le_refl _) _).alloc (by simp) _))).mono ?_; rw [HV.out]; rintro e1 w1 ⟨rfl, hb1⟩)
        go_ret
        exact ⟨by rw [H.out]; rfl, below2 (((Below.refl _ _).alloc (Nat.le_refl _) _).alloc (by simp) _) hb1 (Nat.le_refl _)⟩
    · have H := Lib.hid (show ok = false by rw [← HOK.out]; simp [V.node, g])
      have g' : (2000 : Int) < s.length := by omega
      go_enter Tryd.func77, Tryd.ntmps77
      go_wp2
      all_goals (go_ret; exact ⟨by rw [H.out]; rfl, ((Below.refl _ _).alloc (Nat.le_refl _) _).alloc (by simp) _⟩)
  by_cases q4 : k = 4
  · subst q4
    cases hv : decOk n e with
    | true =>
      have HV := Lib.hid (show decOk (V.num (.mk 4 n e s kids)) (V.exp (.mk 4 n e s kids)) = true from hv)
      have H := Lib.hid (show ok = decide (s = []) by rw [← HOK.out]; simp [V.node, hv])
      clear hv
      go_enter Tryd.func77, Tryd.ntmps77
      go_wp2_with (go_at_call 92; refine (HD.out _ (((Below.refl _ _).alloc (Nat.le_refl _) _).alloc (by simp) _)).mono ?_; rw [HV.out]; rintro e1 w1 ⟨rfl, hb1⟩; have C := (bcell hb1).1; have F := (bcell hb1).2; have hz1 := hb1.size; have z1 : w.heap.size < w1.heap.size := (by simp at hz1; omega); have z2 : w.heap.size + 1 < w1.heap.size := (by simp at hz1; omega); have f1 : w1.cell? ⟨w.heap.size, 1, none⟩ = some (.int .i64 n) := (by rw [C _ _ (by simp <;> omega)]; simp [go_sem]); have f2 : w1.cell? ⟨w.heap.size, 2, none⟩ = some (.int .i64 e) := (by rw [C _ _ (by simp <;> omega)]; simp [go_sem]); have f3 : w1.cell? ⟨w.heap.size, 3, none⟩ = some (.string ⟨s.toArray⟩) := (by rw [C _ _ (by simp <;> omega)]; simp [go_sem]); have p1 : w1.cell? ⟨w.heap.size + 1, 1, none⟩ = some (.int .i64 0) := (by rw [C _ _ (by simp <;> omega)]; simp [go_sem]); have p2 : w1.cell? ⟨w.heap.size + 1, 2, none⟩ = some (.int .i64 0) := (by rw [C _ _ (by simp <;> omega)]; simp [go_sem]); have p3 : w1.cell? ⟨w.heap.size + 1, 3, none⟩ = some (.string ⟨#[]⟩) := (by rw [C _ _ (by simp <;> omega)]; simp [go_sem]); have p8 : w1.frozen? ⟨w.heap.size + 1, 1, none⟩ = false := (by rw [F _ _ (by simp <;> omega)]; simp [go_sem]); have p9 : w1.frozen? ⟨w.heap.size + 1, 2, none⟩ = false := (by rw [F _ _ (by simp <;> omega)]; simp [go_sem]); clear C F hz1)
      have hbel : Below w.heap.size w w1 := below2 (((Below.refl _ _).alloc (Nat.le_refl _) _).alloc (by simp) _) hb1 (Nat.le_refl _)
      go_region
      all_goals (go_wp2; go_ret; refine ⟨ret_bool ?_, by first | exact ((hbel.setCell (by simp) _).setCell (by simp) _).drew | exact (hbel.setCell (by simp) _).setCell (by simp) _ | exact below_drewN ((hbel.setCell (by simp) _).setCell (by simp) _) _⟩; rw [H.out]; simp [isE])
    | false =>
      have HV := Lib.hid (show decOk (V.num (.mk 4 n e s kids)) (V.exp (.mk 4 n e s kids)) = false from hv)
      have H := Lib.hid (show ok = false by rw [← HOK.out]; simp [V.node, hv])
      clear hv
      go_enter Tryd.func77, Tryd.ntmps77
      go_wp2_with (go_at_call 92; refine (HD.out _ (((Below.refl _ _).alloc (Nat.le_refl _) _).alloc (by simp) _)).mono ?_; rw [HV.out]; rintro e1 w1 ⟨rfl, hb1⟩)
      go_ret
      exact ⟨by rw [H.out]; rfl, below2 (((Below.refl _ _).alloc (Nat.le_refl _) _).alloc (by simp) _) hb1 (Nat.le_refl _)⟩
  have H := Lib.hid (show ok = false by rw [← HOK.out]; simp [V.node, q0, q1, q2, q3, q4, q5, q6, q7, q8, q9])
  go_enter Tryd.func77, Tryd.ntmps77
  go_wp2
  all_goals (go_ret; exact ⟨by rw [H.out]; rfl, ((Below.refl _ _).alloc (Nat.le_refl _) _).alloc (by simp) _⟩)
end Go.Proofs.YtpknmldpdoadgaaDoor
