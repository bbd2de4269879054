/- Part 3 of the proof: contracts and walks. -/
import Derived.Test.YthngfihpnfoppaaDoorPa2
import Derived.Lib.ValidLaws
import Derived.Test.YthngfihpnfoppaaDoorRows
import Derived.WalkSpells
import Derived.Lib.Hide
import Derived.IntWalk
import Derived.Deep.DeepMust
import Derived.WalkLawsBesides
import Derived.Deep.QuietTactic
import Derived.BigQuiet
import Derived.StillTailTactics
import Derived.Lib.ItoaNum
import Derived.Test.YthngfihpnfoppaaDoorChecked
import Derived.KernelRfl
namespace Go.Proofs.YthngfihpnfoppaaDoor
open Go.RowKit

theorem trOprs_c {P : Program} {n : Nat} {ops : Array Oper} : ∀ {l : List Oper} {ml : List MOpr}, trOprs P n ops l = some ml → ∀ m ∈ ml, m.c = []
  | [], ml, h => by simp only [trOprs, Option.some.injEq] at h; subst h; simp
  | o :: l, ml, h => by
    simp only [trOprs] at h
    split at h
    · rename_i m r h1 h2
      simp only [Option.some.injEq] at h; subst h
      intro x hx
      rcases List.mem_cons.1 hx with rfl | hx
      · unfold trOpr at h1
        split at h1
        · split at h1
          · simp only [Option.some.injEq] at h1; subst h1; rfl
          · cases h1
        · cases h1
      · exact trOprs_c h2 x hx
    · cases h
theorem besides_c {ml : List MOpr} {bs : List (List Nat)} : ∀ {l : List MOpr} {j : Nat}, (∀ m ∈ l, m.c = []) → ∀ m ∈ besides ml bs j l, (m.o.isCall = true ∨ m.o.isApp = true) → m.c ≠ [.f 1]
  | [], _, _, m, h, _ => by simp [besides] at h
  | x :: r, j, hl, m, h, hc => by
    simp only [besides, List.mem_cons] at h
    rcases h with rfl | h
    · have h0 := hl x (by simp)
      unfold beside at hc ⊢
      split at hc
      · rename_i hs
        have : x.o.isCall = false ∧ x.o.isApp = false := by cases ho : x.o <;> rw [ho] at hs <;> first | exact ⟨rfl, rfl⟩ | cases hs
        rw [show ({ x with c := _ } : MOpr).o = x.o from rfl, this.1, this.2] at hc; rcases hc with hc | hc <;> cases hc
      · rename_i hs
        rw [if_neg hs]
        split
        · simp
        · split
          · simp
          · rw [h0]; simp
    · exact besides_c (fun m hm => hl m (by simp [hm])) m h hc

section
variable {E : Env} {B : Base} {C : Cx} {s : St} {a : Act} {w : World}

theorem op_callX {ops : Array Oper} {o : Oper} {d f : Nat} {xs : List X} {g : Option (Nat × Bool)} {cc : List X} (ht : TrO E.P B.n ops o ⟨some d, .call f xs, g, cc⟩) (h : Rep E B C s a w) {KC : Act → World → Prop}
    (hc : ∀ vs : List Value, vs.length = (xs.map (ev s.tm)).length → (∀ (j : Nat) (x : PV) (y : Value), (xs.map (ev s.tm))[j]? = some x → vs[j]? = some y → RpV C w x y) → Calls E.P f vs.toArray w fun e w' => ∃ u, e = .returned u ∧ KC (a.put (some d) u) w') (Q : Exit → Act → World → Prop) : o.wp E.P a w KC Q := by
  obtain ⟨t1, t2, t3, t4, t5⟩ := ht
  obtain ⟨dst, op, ty, pos, after, guard⟩ := o
  simp only at t1 t2 t3 t4 t5
  subst t3
  rcases t1 with t1 | ⟨_, _, _, h'⟩
  case inr => cases h'
  have hop : ∃ c, op = .call c ∧ c.callee = .value (.func f) ∧ trXs c.args.toList = some xs := by
    cases op <;> simp only [trOp] at t1 <;> (try (cases t1; done))
    case call c =>
      refine ⟨c, rfl, ?_⟩
      split at t1
      · rename_i f' hcal
        cases hx : trXs c.args.toList with
        | none => rw [hx] at t1; cases t1
        | some ys => rw [hx] at t1; simp only [Option.map_some, Option.some.injEq, MO.call.injEq] at t1; obtain ⟨rfl, rfl⟩ := t1; exact ⟨hcal, rfl⟩
      all_goals exfalso
      all_goals ((repeat' split at t1) <;> first | contradiction | (cases t1; done) | (simp at t1; done))
    all_goals exfalso
    all_goals ((repeat' split at t1) <;> first | contradiction | (cases t1; done) | (simp at t1; done))
  obtain ⟨c, rfl, hcc, hxs⟩ := hop
  obtain ⟨k1, k2⟩ := args_rp h hxs
  have hrun : (execOp a.eval { dst := some d, op := .call c, type := ty, pos := pos, after := after, guard := guard }).run E.P w = .ok (.enter f (c.args.toList.map a.eval).toArray) w := by
    simp [execOp, resolve, hcc, Act.eval, Deferred.ofValue, invoke]
    rw [run_callFunc t4, ← Array.toList_map, Array.toArray_toList]
  unfold Oper.wp
  rw [hrun]
  refine (hc _ k1 k2).mono ?_
  rintro e w' ⟨u, rfl, hk⟩
  exact hk

/-- the first ones of a list of operations -/
theorem po_sound_app {ops : Array Oper} {Q : Exit → Act → World → Prop} {K : St → Prop} {l2 : List Nat} : ∀ (l : List Nat) (ml : List MOpr) {C : Cx} {s : St} {a : Act} {w : World}, ml.length = l.length → (∀ (k : Nat) (i : Nat) (mo : MOpr), l[k]? = some i → ml[k]? = some mo → ∃ o, ops[i]? = some o ∧ TrO E.P B.n ops o mo) →
    Rep E B C s a w → po E ml K s → (∀ C' s' a' w', Rep E B C' s' a' w' → K s' → wpOps E.P ops Q l2 a' w') → wpOps E.P ops Q (l ++ l2) a w
  | [], [], C, s, a, w, _, _, h, hp, hK => hK C s a w h hp
  | i :: l, mo :: ml, C, s, a, w, hl, ht, h, hp, hK => by
    obtain ⟨o, ho, htr⟩ := ht 0 i mo rfl rfl
    obtain ⟨t1, t2, t3, t4, t5⟩ := id htr
    obtain ⟨g, hg, hp⟩ := hp
    have hw := gd_wanted h t2 hg
    have hrec := fun C' s' a' w' (hr : Rep E B C' s' a' w') (hp' : po E ml K s') => po_sound_app l ml (by simpa using hl) (fun k i mo h1 h2 => ht (k + 1) i mo (by simpa using h1) (by simpa using h2)) hr hp' hK
    simp only [List.cons_append, wpOps, ho, hw]
    rcases hp with ⟨rfl, hp⟩ | ⟨rfl, hp⟩
    · rw [if_pos rfl]
      exact .inl (pstep_sound htr h hp hrec Q)
    · rw [if_neg (by decide)]
      refine hrec C _ _ w (h.put t5 (.tup [] [] rfl (fun j x y h => by simp at h))) ?_
      rw [← t3]; exact hp
  | [], _ :: _, _, _, _, _, hl, _, _, _, _ => by simp at hl
  | _ :: _, [], _, _, _, _, hl, _, _, _, _ => by simp at hl
end

/-- a call of which all is told -/
def XCall (E : Env) (B : Base) (f : Nat) (xs : List PV) (d : Nat) (K : St → Prop) (s : St) : Prop := ∀ (C : Cx) (a : Act) (w : World) (vs : List Value), Rep E B C s a w → vs.length = xs.length → (∀ (j : Nat) (x : PV) (y : Value), xs[j]? = some x → vs[j]? = some y → RpV C w x y) →
  Calls E.P f vs.toArray w fun e w' => ∃ u C' s' x, e = .returned u ∧ Rep E B C' s' a w' ∧ RpV C' w' x u ∧ K (s'.put (some d) x)
theorem mw_callX {E : Env} {B : Base} {pre suf : List MOpr} {d f : Nat} {xs : List X} {Q : Exit → St → Prop} {s : St} (h : po E pre (fun s1 => XCall E B f (xs.map (ev s1.tm)) d (fun s2 => po E suf (Q .normal) s2) s1) s) : mw E B (.ops (pre ++ ⟨some d, .call f xs, none, [.f 1]⟩ :: suf)) Q s := by
  intro c hc C ac w hr
  obtain ⟨h', _⟩ | ⟨id, ops, dr, _, h', rfl, k⟩ | ⟨_, _, _, _, h', _⟩ | ⟨_, _, _, _, _, _, h', _⟩ | ⟨_, _, _, h', _⟩ | ⟨_, _, h', _⟩ | ⟨_, h', _⟩ | ⟨h', _⟩ | ⟨_, _, _, h', _⟩ := tr_inv hc <;> try (cases h'; done)
  simp only [M.ops.injEq] at h'; subst h'
  unfold trR at k
  split at k
  · rename_i ml hml
    obtain ⟨m1, m2⟩ := trOprs_some hml
    have mc := trOprs_c hml
    have hsz : ops.size = ml.length := by rw [m1, Array.length_toList]
    cases dr with
    | true =>
      exfalso
      simp only [if_true] at k
      split at k
      · simp only [Option.some.injEq] at k
        have hmem : (⟨some d, .call f xs, none, [.f 1]⟩ : MOpr) ∈ pre ++ ⟨some d, .call f xs, none, [.f 1]⟩ :: suf := by simp
        rw [← k, List.mem_filterMap] at hmem
        obtain ⟨i, _, hi⟩ := hmem
        refine besides_c (l := ml.map (toQuiet ml)) (fun m hm => ?_) _ (List.mem_of_getElem? hi) (.inl rfl) rfl
        obtain ⟨m0, hm0, rfl⟩ := List.mem_map.1 hm
        have := mc m0 hm0
        unfold toQuiet; split
        · split
          · exact this
          · exact this
        · exact this
      · cases k
    | false =>
      simp only [Bool.false_eq_true, if_false, Option.some.injEq] at k
      refine wp_region ?_
      have htr0 : ∀ (o : Oper) (m : MOpr), TrO E.P B.n ops o m → TrO E.P B.n ops o (markCall m) := by
        intro o m ht
        unfold markCall; split <;> exact ht
      have key : ∀ (i : Nat) (mo : MOpr), (pre ++ ⟨some d, .call f xs, none, [.f 1]⟩ :: suf)[i]? = some mo → ∃ o, ops[i]? = some o ∧ TrO E.P B.n ops o mo := by
        intro i mo hi
        rw [← k, List.getElem?_map] at hi
        obtain ⟨mo0, h3, rfl⟩ := Option.map_eq_some_iff.1 hi
        have hlt : i < ops.size := by
          rw [hsz]
          rcases Nat.lt_or_ge i ml.length with h | h
          · exact h
          · rw [List.getElem?_eq_none h] at h3; cases h3
        exact ⟨ops[i], Array.getElem?_eq_getElem hlt, htr0 _ _ (trOpr_some (m2 i ops[i] mo0 (by simp [hlt]) h3))⟩
      have hlen : ops.size = pre.length + (suf.length + 1) := by
        have := congrArg List.length k
        rw [List.length_map, List.length_append, List.length_cons] at this; omega
      have hrange : List.range ops.size = List.range pre.length ++ (pre.length :: (List.range suf.length).map (· + (pre.length + 1))) := by
        rw [hlen, List.range_add, Nat.add_comm suf.length 1, List.range_add, List.map_append, List.map_map]
        simp only [List.range_one, List.map_cons, List.map_nil, Nat.add_zero, List.singleton_append]
        congr 2
        refine List.map_congr_left fun x _ => ?_
        simp only [Function.comp_apply]; omega
      rw [hrange]
      refine po_sound_app (B := B) (List.range pre.length) pre (by simp) (fun q i mo h1 h2 => ?_) hr h ?_
      · have hq : q < pre.length := by
          rcases Nat.lt_or_ge q pre.length with h | h
          · exact h
          · rw [List.getElem?_eq_none h] at h2; cases h2
        rw [List.getElem?_range hq] at h1; simp only [Option.some.injEq] at h1; subst h1
        exact key q mo (by rw [List.getElem?_append_left hq]; exact h2)
      · intro C1 s1 a1 w1 hr1 hx
        obtain ⟨o, ho, htr⟩ := key pre.length _ (by rw [List.getElem?_append_right (Nat.le_refl _), Nat.sub_self]; rfl)
        have hw := gd_wanted hr1 htr.2.1 (b := true) rfl
        have t5 := htr.2.2.2.2
        have t3 := htr.2.2.1
        simp only [wpOps, ho, hw, if_true]
        refine .inl (op_callX htr hr1 (fun vs hl hv => ?_) _)
        refine (hx C1 a1 w1 vs hr1 hl hv).mono ?_
        rintro e w' ⟨u, C', s', x, rfl, hr', hx', hk⟩
        refine ⟨u, rfl, ?_⟩
        have hdlt : ∀ t, some d = some t → t < B.n := fun t ht => t5 t (by rw [← t3]; exact ht)
        refine po_sound (B := B) _ suf (by simp) (fun q i mo h1 h2 => ?_) (hr'.put hdlt hx') hk (fun C2 s2 a2 w2 hr2 hk2 => ⟨C2, s2, hr2, hk2⟩)
        have hq : q < suf.length := by
          rcases Nat.lt_or_ge q suf.length with h | h
          · exact h
          · rw [List.getElem?_eq_none h] at h2; cases h2
        rw [List.getElem?_map, List.getElem?_range hq] at h1
        simp only [Option.map_some, Option.some.injEq] at h1; subst h1
        refine key _ mo ?_
        rw [List.getElem?_append_right (by omega), show q + (pre.length + 1) - pre.length = q + 1 by omega]
        simpa using h2
  · cases k

/-! ### A mark -/
def simV (v v' : Value) : Prop := v = v' ∨ ∃ a c a' c', v = .slice a 0 c ∧ v' = .slice a' 0 c'
theorem rp_empty {C : Cx} {w : World} {t : Nat} {v : Value} (h : RpC C w (.sl t []) v) : ∃ a c, v = .slice a 0 c := by
  cases h with
  | emp a c => exact ⟨a, c, rfl⟩
  | nil => exact ⟨none, 0, rfl⟩
  | nilo _ _ _ => exact ⟨none, 0, rfl⟩
  | rd _ b o n c u => exact ⟨_, _, rfl⟩
  | own => exact ⟨_, _, rfl⟩
theorem rp_sim {C : Cx} {w : World} {c : PC} {v v' : Value} (h : RpC C w c v) (h' : RpC C w c v') (ho : c.owned = true) : simV v v' := by
  match c, h, h', ho with
  | .v x, h, h', _ => cases h; cases h'; exact .inl rfl
  | .bld p T t U, h, h', ho => simp [PC.owned] at ho
  | .anyp, h, h', ho => simp [PC.owned] at ho
  | .row _ _ _, h, h', ho => simp [PC.owned] at ho
  | .sl t [], h, h', _ =>
    obtain ⟨a, c, e⟩ := rp_empty h; obtain ⟨a', c', e'⟩ := rp_empty h'
    exact .inr ⟨a, c, a', c', e, e'⟩
  | .sl t (r :: es), h, h', ho =>
    simp only [PC.owned, List.isEmpty_cons, Bool.or_false, Bool.and_eq_true, decide_eq_true_eq] at ho
    cases h with
    | rd => exact absurd rfl ho.1
    | own _ _ b u h2 ht hb =>
      cases h' with
      | rd => omega
      | own _ _ b' u' _ _ hb' => rw [hb] at hb'; simp only [Option.some.injEq] at hb'; subst hb'; exact .inl rfl
theorem ownedL_get : ∀ (cs : List PC) (j : Nat) (h : j < cs.length), ownedL cs = true → cs[j].owned = true
  | c :: cs, 0, _, ho => by simp only [ownedL, Bool.and_eq_true] at ho; exact ho.1
  | c :: cs, j + 1, h, ho => by simp only [ownedL, Bool.and_eq_true] at ho; exact ownedL_get cs j (by simpa using h) ho.2
theorem rpL_sim {C : Cx} {w : World} {cs : List PC} {vs vs' : List Value} (h : RpL C w cs vs) (h' : RpL C w cs vs') (ho : ownedL cs = true) : vs.length = vs'.length ∧ ∀ (j : Nat) (y y' : Value), vs[j]? = some y → vs'[j]? = some y' → simV y y' := by
  refine ⟨h.1.trans h'.1.symm, fun j y y' e e' => ?_⟩
  have hlt : j < cs.length := by
    rw [← h.1]
    rcases Nat.lt_or_ge j vs.length with h | h
    · exact h
    · rw [List.getElem?_eq_none h] at e; cases e
  have ho' : cs[j].owned = true := ownedL_get cs j hlt ho
  exact rp_sim (h.2 j _ y (List.getElem?_eq_getElem hlt) e) (h'.2 j _ y' (List.getElem?_eq_getElem hlt) e') ho'
mutual
/-- its own cells are no empty slices that are told whole -/
def D.pl : D → Prop
  | .one v => ∀ a c, v ≠ .slice a 0 c
  | .agg fs => D.pls fs
  | .sl _ _ => True
def D.pls : List D → Prop
  | [] => True
  | d :: ds => D.pl d ∧ D.pls ds
end
mutual
theorem tree_sim {w : World} : ∀ {d : D} {fp : List Nat} {vs vs' : List Value}, TreeC w d fp vs → d.pl → vs.length = vs'.length → (∀ (j : Nat) (y y' : Value), vs[j]? = some y → vs'[j]? = some y' → simV y y') → ∃ fp', fp'.Sublist fp ∧ TreeC w d fp' vs'
  | .one v, fp, vs, vs', h, hp, hl, hs => by
    simp only [TreeC] at h ⊢; obtain ⟨rfl, rfl⟩ := h
    match vs', hl with
    | [v'], _ =>
      rcases hs 0 v v' rfl rfl with rfl | ⟨a, c, a', c', e, e'⟩
      · exact ⟨[], List.Sublist.refl _, rfl, rfl⟩
      · simp only [D.pl] at hp; exact absurd e (hp a c)
  | .agg fs, fp, vs, vs', h, hp, hl, hs => by
    simp only [TreeC] at h ⊢; simp only [D.pl] at hp; exact trees_sim h hp hl hs
  | .sl n es, fp, vs, vs', h, hp, hl, hs => by
    simp only [TreeC] at h ⊢
    obtain ⟨a, c, rfl, h⟩ := h
    match vs', hl with
    | [v'], _ =>
      rcases hs 0 _ v' rfl rfl with rfl | ⟨a1, c1, a', c', e, e'⟩
      · exact ⟨fp, List.Sublist.refl _, a, c, rfl, h⟩
      · simp only [Value.slice.injEq] at e
        have hes : es = [] := List.eq_nil_of_length_eq_zero e.2.1
        subst hes
        exact ⟨[], List.nil_sublist _, a', c', by rw [e']; rfl, .inl ⟨rfl, rfl⟩⟩
theorem trees_sim {w : World} : ∀ {ds : List D} {fp : List Nat} {vs vs' : List Value}, TreeCs w ds fp vs → D.pls ds → vs.length = vs'.length → (∀ (j : Nat) (y y' : Value), vs[j]? = some y → vs'[j]? = some y' → simV y y') → ∃ fp', fp'.Sublist fp ∧ TreeCs w ds fp' vs'
  | [], fp, vs, vs', h, hp, hl, hs => by
    simp only [TreeCs] at h ⊢; obtain ⟨rfl, rfl⟩ := h
    exact ⟨[], List.Sublist.refl _, rfl, List.eq_nil_of_length_eq_zero (by simpa using hl.symm)⟩
  | d :: ds, fp, vs, vs', h, hp, hl, hs => by
    simp only [TreeCs] at h ⊢; obtain ⟨f1, f2, c1, c2, rfl, rfl, hw, h1, h2⟩ := h
    simp only [D.pls] at hp
    rw [List.length_append] at hl
    have hl1 : (vs'.take c1.length).length = c1.length := by rw [List.length_take]; omega
    have hl2 : (vs'.drop c1.length).length = c2.length := by rw [List.length_drop]; omega
    obtain ⟨g1, s1, t1⟩ := tree_sim h1 hp.1 hl1.symm (fun j y y' e e' => by
      rw [List.getElem?_take] at e'
      split at e'
      · rename_i hj
        exact hs j y y' (by rw [List.getElem?_append_left hj]; exact e) e'
      · cases e')
    obtain ⟨g2, s2, t2⟩ := trees_sim h2 hp.2 hl2.symm (fun j y y' e e' => by
      rw [List.getElem?_drop] at e'
      exact hs (c1.length + j) y y' (by rw [List.getElem?_append_right (by omega), Nat.add_sub_cancel_left]; exact e) e')
    exact ⟨g1 ++ g2, s1.append s2, g1, g2, vs'.take c1.length, vs'.drop c1.length, rfl, by simp, by rw [hl1]; exact hw, t1, t2⟩
end
end Go.Proofs.YthngfihpnfoppaaDoor

namespace Go.Proofs.YthngfihpnfoppaaDoor
open Go.RowKit

/-- a box's rows have names -/
theorem Rep.nameBox {E : Env} {B : Base} {C : Cx} {tm : Nat → PV} {bx : List (List PC)} {nt : Nat} {live : List Nat} {a : Act} {w : World} (hr : Rep E B C ⟨tm, bx, nt, live⟩ a w) {p : Nat} {vs : List Value} (hp : bx[p]? = some (vs.map .v)) {d : D} {fp : List Nat} (ht : TreeC w d fp vs) (hd : d.wf) (hn : fp.Nodup) (hf : Fr E.NG C bx live fp) (hnew : ∀ b ∈ fp, B.w.heap.size ≤ b) :
    ∃ cs' nt' C', erL cs' = d.pc ∧ ownedL cs' = true ∧ (toksL cs').Nodup ∧ (∀ t ∈ toksL cs', nt ≤ t ∧ t < nt') ∧ nt ≤ nt' ∧ Rep E B C' ⟨tm, bx.set p cs', nt', toksL cs' ++ live⟩ a w := by
  have h2 : 2 ≤ C.nt := by have h1 := hr.nt; have h2 := hr.n2; simp only at h1 h2; omega
  have hnt : C.nt = nt := hr.nt
  obtain ⟨C', cs', new, k1, k2, k3, k4⟩ := names_of ht hd hn hr.inv h2 hf
  have hplt : p < bx.length := by
    rcases Nat.lt_or_ge p bx.length with h' | h'
    · exact h'
    · rw [List.getElem?_eq_none h'] at hp; cases hp
  have hsub : ∀ t, t ∈ toksL cs' ++ live → t ∈ new ++ live := fun t ht => by
    rcases List.mem_append.1 ht with ht | ht
    · simp [k1.sub t ht]
    · simp [ht]
  refine ⟨cs', C'.nt, C', k3, k4, k1.nd, fun t ht => hnt ▸ k1.rng t (k1.sub t ht), by rw [← hnt]; exact k1.le.nt, ⟨?_, rfl, by have := k1.le.nt; show 2 ≤ C'.nt; omega, ?_, hr.size, hr.defers, fun t => (hr.tm t).frame k1.le (Fix.refl _ _)⟩⟩
  · have hI := k1.inv
    refine ⟨by simpa using hI.nb, fun q cs hq => ?_, fun q hq => hI.boxF q (by simpa using hq), fun q hq => hI.boxG q (by simpa using hq), fun q q' h1 h2 => hI.inj q q' (by simpa using h1) (by simpa using h2), fun t ht => ?_, fun t s b ht hs => hI.tinj t s b (hsub t ht) (hsub s hs), hI.fin, hI.ng, hI.t⟩
    · by_cases he : p = q
      · subst he
        have hq' : (bx.set p cs')[p]? = some cs := hq
        rw [List.getElem?_set_self hplt] at hq'; simp only [Option.some.injEq] at hq'; subst hq'
        obtain ⟨us, e, h1, h3⟩ := hI.box p _ hp
        refine ⟨us, e, h1, ?_⟩
        have : us = vs := by
          refine List.ext_getElem (by rw [h3.1]; simp) fun j h4 h5 => ?_
          have := h3.2 j (.v vs[j]) us[j] (by simp) (by simp)
          generalize us[j] = x at this; generalize vs[j] = y at this
          cases this; rfl
        rw [this]; exact k2
      · have hq' : (bx.set p cs')[q]? = some cs := hq
        rw [List.getElem?_set_ne he] at hq'
        exact hI.box q cs hq'
    · obtain ⟨a1, a2, a3⟩ := hI.tok t (hsub t ht)
      refine ⟨a1, a2, a3.imp id ?_⟩
      rintro ⟨b, cur, e, c1, c2, c3, c4, c5, c6, c7, c8, c9, c10⟩
      exact ⟨b, cur, e, c1, c2, c3, c4, c5, c6, c7, c8, c9, fun q hq => c10 q (by simpa using hq)⟩
  · have hE := hr.ext
    have hnb : C.nb = bx.length := hr.inv.nb
    refine ⟨hE.os, hE.tape, hE.output, hE.size, fun b o hF => k1.le.F b o (hE.F b o hF), hE.fix, hE.block, ⟨Nat.le_trans hE.bx.1 k1.le.nb, fun q hq => (k1.le.bx q (Nat.lt_of_lt_of_le hq hE.bx.1)).trans (hE.bx.2 q hq)⟩, fun b o hF => ?_, fun t b ht hb => ?_, fun q hq hq2 => ?_, ⟨Nat.le_trans hE.tk.1 k1.le.nt, fun t ht => ?_⟩⟩
    · rcases k1.F b o hF with h | h
      · exact hE.newF b o h
      · exact .inr (.inl (hnew b h))
    · rcases List.mem_append.1 ht with ht | ht
      · obtain ⟨b', hb', e'⟩ := k1.tkb t (k1.sub t ht)
        rw [e'] at hb; simp only [Option.some.injEq] at hb; subst hb; exact .inl (hnew b' hb')
      · rw [(k1.le.tk t (hr.inv.tok t ht).2.1).1] at hb
        exact hE.newT t b ht hb
    · have hq' : q < bx.length := by simpa using hq2
      rw [k1.le.bx q (by rw [hnb]; exact hq')]; exact hE.newB q hq hq'
    · obtain ⟨a1, a2, a3, a4⟩ := hE.tk.2 t ht
      obtain ⟨b1, b2, b3, b4⟩ := k1.le.tk t (Nat.lt_of_lt_of_le ht hE.tk.1)
      exact ⟨b1.trans a1, b2.trans a2, b3.trans a3, b4.trans a4⟩

/-- what a mark does: it writes the data's rows, all of them, and gives back a number -/
def MarkC (E : Env) (f : Nat) (d d' : D) (k r : Int) : Prop := ∀ (W : World) (fp : List Nat) (vs : List Value), TreeC W d fp vs → fp.Nodup → Calls E.P f #[.agg vs.toArray, .int .i64 k] W fun e w' => e = .returned (.int .i64 r) ∧ Keep (· ∈ fp) W w' ∧ TreeC w' d' fp vs

section
variable {E : Env} {B : Base} {f : Nat} {tm : Nat → PV} {bx : List (List PC)} {nt : Nat} {live : List Nat} {cs : List PC} {k r : Int} {d : Nat} {dd dd' : D} {K : St → Prop} {L : List Nat} {kt : List Nat} {kb : List Bool}

/-- what lies in its argument is not looked at any more -/
theorem xcall_drop (hM : MarkC E f dd dd' k r) (hB : ∀ t, ¬ B.C.old t) (hBF : ∀ b o, B.C.F b o → b < B.w.heap.size) (hdd : dd.wf) (he : erL cs = dd.pc) (ho : ownedL cs = true) (hnd : (toksL cs).Nodup) (hsub : ∀ t ∈ toksL cs, t ∈ live)
    (hL : ∀ t ∈ L, t ∈ live ∧ t ∉ toksL cs) (ht : fineT (· ∈ L) tm kt) (hb : fineB (· ∈ L) kb bx)
    (h : ∀ rw r', K ⟨up d (.d (.v (.int .i64 r))) (maskT rw kt tm), maskB r' 0 kb bx, nt, L⟩) : XCall E B f [.ag cs, .d (.v (.int .i64 k))] d K ⟨tm, bx, nt, live⟩ := by
  intro C a w vs hr hl hv
  match vs, hl with
  | [v1, v2], _ =>
    have h1 := hv 0 _ _ rfl rfl
    have h2 := hv 1 _ _ rfl rfl
    cases h1 with
    | ag _ us hus =>
      have h2' : v2 = .int .i64 k := by cases h2 with | d _ _ h => cases h; rfl
      subst h2'
      obtain ⟨fp, n1, n2, n3⟩ := tree_of (Tks.of hr.inv) he hdd ho hus hsub hnd
      refine (hM w fp us n3 n1).mono ?_
      rintro e w' ⟨rfl, hk, _⟩
      obtain ⟨rw, r', hr', _⟩ := hr.drop hB hBF hk (L := L) (fun b hb' => by
        obtain ⟨t, t1, t2⟩ := n2 b hb'
        exact ⟨t, hsub t t1, t2, fun h => (hL t h).2 t1⟩) (fun t h => (hL t h).1) ht hb
      exact ⟨_, _, _, .d (.v (.int .i64 r)), rfl, hr', .d _ _ (.v _ rfl), by rw [put_up]; exact h rw r'⟩
/-- what lies in its argument is known behind it -/
theorem xcall_redo {p : Nat} (hM : MarkC E f dd dd' k r) (hB : ∀ t, ¬ B.C.old t) (hBF : ∀ b o, B.C.F b o → b < B.w.heap.size) (hdd : dd.wf) (hdd' : dd'.wf) (hpl : dd'.pl) (he : erL cs = dd.pc) (ho : ownedL cs = true) (hnd : (toksL cs).Nodup) (hsub : ∀ t ∈ toksL cs, t ∈ live)
    (hL : ∀ t ∈ L, t ∈ live ∧ t ∉ toksL cs) (ht : fineT (· ∈ L) tm kt) (hb : fineB (· ∈ L) kb bx) (hp : bx[p]? = some cs) (hkp : ∀ r', (maskB r' 0 kb bx)[p]? = some (r' p))
    (h : ∀ rw r' cs' nt', erL cs' = dd'.pc → ownedL cs' = true → (toksL cs').Nodup → (∀ t ∈ toksL cs', nt ≤ t ∧ t < nt') → nt ≤ nt' → K ⟨up d (.d (.v (.int .i64 r))) (maskT rw kt tm), (maskB r' 0 kb bx).set p cs', nt', toksL cs' ++ L⟩) : XCall E B f [.ag cs, .d (.v (.int .i64 k))] d K ⟨tm, bx, nt, live⟩ := by
  intro C a w vs hr hl hv
  match vs, hl with
  | [v1, v2], _ =>
    have h1 := hv 0 _ _ rfl rfl
    have h2 := hv 1 _ _ rfl rfl
    cases h1 with
    | ag _ us hus =>
      have h2' : v2 = .int .i64 k := by cases h2 with | d _ _ h => cases h; rfl
      subst h2'
      obtain ⟨fp, n1, n2, n3⟩ := tree_of (Tks.of hr.inv) he hdd ho hus hsub hnd
      refine (hM w fp us n3 n1).mono ?_
      rintro e w' ⟨rfl, hk, htr⟩
      have hS : ∀ b, b ∈ fp → ∃ t ∈ live, C.tk t = some b ∧ t ∉ L := fun b hb' => by
        obtain ⟨t, t1, t2⟩ := n2 b hb'
        exact ⟨t, hsub t t1, t2, fun h => (hL t h).2 t1⟩
      obtain ⟨rw, r', hr', hvb⟩ := hr.drop hB hBF hk (L := L) hS (fun t h => (hL t h).1) ht hb
      obtain ⟨us', e1, e2⟩ := hvb p cs hp
      obtain ⟨s1, s2⟩ := rpL_sim hus e2 ho
      obtain ⟨fp', f1, f2⟩ := tree_sim htr hpl s1 s2
      have hfp : ∀ b ∈ fp', b ∈ fp := fun b hb' => f1.subset hb'
      obtain ⟨cs', nt', C', q1, q2, q3, q4, q5, q6⟩ := hr'.nameBox (p := p) (vs := us') (by rw [← e1]; exact hkp r') f2 hdd' (n1.sublist f1) (fun b hb' => by
        obtain ⟨t, t1, t2, t3⟩ := hS b (hfp b hb')
        have tok := hr.inv.tok t t1
        obtain ⟨_, _, ⟨k0, _⟩ | ⟨b', cur, e', c1, c2, c3, c4, c5, c6, c7, c8, c9, c10⟩⟩ := tok
        · rw [k0] at t2; cases t2
        · rw [c1] at t2; simp only [Option.some.injEq] at t2; subst t2
          refine ⟨c2, fun o hF => hF.2 (hfp _ hb'), fun q hq => ?_, fun s hs hsb => ?_⟩
          · obtain ⟨m1, _⟩ := maskB_get (r := r') (i := 0) hb
            exact c10 q (by rw [← m1]; exact hq)
          · have := hr.inv.tinj t s _ t1 (hL s hs).1 c1 hsb
            subst this; exact t3 hs) (fun b hb' => by
        obtain ⟨t, t1, t2, _⟩ := hS b (hfp b hb')
        exact hr.ext.newT0 hB t b t1 t2)
      exact ⟨_, _, _, .d (.v (.int .i64 r)), rfl, q6, .d _ _ (.v _ rfl), by rw [put_up]; exact h rw r' cs' nt' q1 q2 q3 q4 q5⟩
end
end Go.Proofs.YthngfihpnfoppaaDoor

namespace Go.Proofs.YthngfihpnfoppaaDoor
open Go.RowKit
open Go.Lib (validD)

def keyOk (k : List UInt8) : Bool := decide (k.length ≤ 100) && validD k
def keysOk (ks : List (List UInt8)) : Bool := ks.all keyOk && decide ks.Nodup
def Sh.fields (ks : List (List UInt8)) (m : Int) (n : Nat) : Bool := keysOk ks && (decide (n = ks.length) && (decide (0 ≤ m) && decide (m ≤ ks.length)))
/-- a shape is right but for its kids -/
def Sh.self : Sh → Bool
  | .mk k l h ks m kids =>
    if k = 8 then decide (l = 0) && (decide (h = 0) && Sh.fields ks m kids.length)
    else if k = 3 ∨ k = 5 ∨ k = 6 then decide (ks = []) && (decide (m = 0) && decide (kids = []))
    else if k = 7 then decide (ks = []) && (decide (m = 0) && decide (kids.length = 1))
    else if k = 9 then decide (l = 0) && (decide (h = 0) && (decide (ks = []) && (decide (m = 0) && decide (2 ≤ kids.length))))
    else if k = 0 ∨ k = 1 ∨ k = 2 ∨ k = 4 then decide (l = 0) && (decide (h = 0) && (decide (ks = []) && (decide (m = 0) && decide (kids = []))))
    else false
mutual
/-- right, at most so many kids deep -/
def Sh.right : Int → Sh → Bool
  | d, .mk k l h ks m kids => Sh.rights (d - 1) kids && (decide (0 ≤ d) && Sh.self (.mk k l h ks m kids))
def Sh.rights : Int → List Sh → Bool
  | _, [] => true
  | d, v :: vs => Sh.right d v && Sh.rights d vs
end
def Sh.ok (v : Sh) : Bool := Sh.right 8 v && decide (v.nodes ≤ 100)
theorem keysOk_snoc (ks : List (List UInt8)) (k : List UInt8) : keysOk (ks ++ [k]) = (keysOk ks && (keyOk k && decide (k ∉ ks))) := by
  unfold keysOk
  rw [List.all_append, Bool.eq_iff_iff]
  simp only [Bool.and_eq_true, decide_eq_true_eq, List.nodup_append, List.all_cons, List.all_nil, Bool.and_true]
  constructor
  · rintro ⟨⟨h1, h2⟩, h3, _, h4⟩; exact ⟨⟨h1, h3⟩, h2, fun h => h4 k h k (by simp) rfl⟩
  · rintro ⟨⟨h1, h3⟩, h2, h4⟩; exact ⟨⟨h1, h2⟩, h3, by simp, fun a ha b hb => by simp at hb; subst hb; intro e; subst e; exact h4 ha⟩
theorem keysOk_take {ks : List (List UInt8)} (k : Nat) (h : keysOk (ks.take k) = false) : keysOk ks = false := by
  cases hk : keysOk ks with
  | false => rfl
  | true =>
    rw [← List.take_append_drop k ks] at hk
    unfold keysOk at hk h
    simp only [List.all_append, Bool.and_eq_true, decide_eq_true_eq, List.nodup_append] at hk
    rw [hk.1.1, decide_eq_true hk.2.1] at h; simp at h
theorem Sh.rights_all : ∀ (d : Int) (vs : List Sh), Sh.rights d vs = vs.all (Sh.right d)
  | _, [] => rfl
  | d, v :: vs => by simp [Sh.rights, Sh.rights_all d vs]
end Go.Proofs.YthngfihpnfoppaaDoor

namespace Go.Proofs.YthngfihpnfoppaaDoor
open Go.RowKit

def inR (n a b : Int) : Bool := decide (a ≤ n) && decide (n ≤ b)
theorem inR_yes {n a b : Int} (h : a ≤ n ∧ n ≤ b) : inR n a b = true := by simp [inR, h]
theorem inR_no {n a b : Int} (h : ¬ (a ≤ n ∧ n ≤ b)) : inR n a b = false := by simp only [inR, Bool.and_eq_false_iff, decide_eq_false_iff_not]; omega
theorem within_any (n a b : Int) (w : World) :
    Calls Tryd.prog 54 #[.int .i64 n, .int .i64 a, .int .i64 b] w fun e w' => e = .returned (.bool (inR n a b)) ∧ w = w' := by
  by_cases h1 : a ≤ n
  · go_enter Tryd.func54, Tryd.ntmps54
    go_wp2
    go_ret
    exact ⟨by simp [inR, h1], rfl⟩
  · have H := Lib.hid (inR_no (n := n) (a := a) (b := b) (by omega))
    go_enter Tryd.func54, Tryd.ntmps54
    go_wp2
    go_ret
    exact ⟨by rw [H.out]; rfl, rfl⟩
theorem l01In_any (n a b : Int) (w : World) :
    Calls Tryd.prog 48 #[.int .i64 n, .int .i64 a, .int .i64 b] w fun e w' => e = .returned (.bool (inR n a b)) ∧ w = w' := by
  by_cases h1 : a ≤ n
  · go_enter Tryd.func48, Tryd.ntmps48
    go_wp2
    go_ret
    exact ⟨by simp [inR, h1], rfl⟩
  · have H := Lib.hid (inR_no (n := n) (a := a) (b := b) (by omega))
    go_enter Tryd.func48, Tryd.ntmps48
    go_wp2
    go_ret
    exact ⟨by rw [H.out]; rfl, rfl⟩

end Go.Proofs.YthngfihpnfoppaaDoor

namespace Go.Proofs.YthngfihpnfoppaaDoor
open Go.RowKit
open Go.Lib (validD)

/-- so often times ten stays within 64 bits -/
def fitsN : Nat → Int → Bool
  | 0, _ => true
  | k + 1, n => inR (n * 10) (-9223372036854775808) 9223372036854775807 && fitsN k (n * 10)
def decOk (n e : Int) : Bool := (inR e (-20) 20 && (decide (e ≠ 0) && (inR n (-999999999999999999) 999999999999999999 && decide (Int.tmod n 10 ≠ 0)))) && !(decide (0 < e) && fitsN e.toNat n)
def V.kind : V → Int | .mk k _ _ _ _ => k
def V.num : V → Int | .mk _ n _ _ _ => n
def V.exp : V → Int | .mk _ _ e _ _ => e
def V.text : V → List UInt8 | .mk _ _ _ s _ => s
def V.kids : V → List V | .mk _ _ _ _ ks => ks
def isKeyK (k : Int) : Bool := decide (k = 5) || decide (k = 3)
/-- every other one -/
def odds {α : Type} : List α → List α
  | [] => []
  | [x] => [x]
  | x :: _ :: r => x :: odds r
theorem odds_length {α : Type} : ∀ l : List α, (odds l).length = (l.length + 1) / 2
  | [] => by simp [odds]
  | [x] => by simp [odds]
  | x :: y :: r => by simp only [odds, List.length_cons, odds_length r]; omega
theorem odds_get? {α : Type} : ∀ (l : List α) (j : Nat), (odds l)[j]? = l[2 * j]?
  | [], j => by simp [odds]
  | [x], 0 => rfl
  | [x], j + 1 => by simp [odds]
  | x :: y :: r, 0 => rfl
  | x :: y :: r, j + 1 => by simp only [odds, List.getElem?_cons_succ, odds_get? r j]; rw [show 2 * (j + 1) = 2 * j + 1 + 1 by omega]; simp
theorem odds_get {α : Type} (l : List α) (j : Nat) (h : 2 * j < l.length) : (odds l)[j]'(by rw [odds_length]; omega) = l[2 * j] := by
  have := odds_get? l j
  rw [List.getElem?_eq_getElem h, List.getElem?_eq_getElem (by rw [odds_length]; omega)] at this
  exact Option.some.inj this
/-- keys, no two alike -/
def uniq {α : Type} [DecidableEq α] (f : V → α) (ks : List V) : Bool := ks.all (fun x => isKeyK x.kind) && decide ((ks.map f).Nodup)
theorem uniq_snoc {α : Type} [DecidableEq α] (f : V → α) (ks : List V) (x : V) : uniq f (ks ++ [x]) = (uniq f ks && (isKeyK x.kind && decide (f x ∉ ks.map f))) := by
  unfold uniq
  rw [List.all_append, Bool.eq_iff_iff]
  simp only [Bool.and_eq_true, decide_eq_true_eq, List.map_append, List.map_cons, List.map_nil, List.nodup_append, List.all_cons, List.all_nil, Bool.and_true]
  constructor
  · rintro ⟨⟨h1, h2⟩, h3, _, h4⟩; exact ⟨⟨h1, h3⟩, h2, fun h => h4 _ h _ (by simp) rfl⟩
  · rintro ⟨⟨h1, h3⟩, h2, h4⟩; exact ⟨⟨h1, h2⟩, h3, by simp, fun a ha b hb => by simp at hb; subst hb; intro e; subst e; exact h4 ha⟩
theorem uniq_take {α : Type} [DecidableEq α] {f : V → α} {ks : List V} (k : Nat) (h : uniq f (ks.take k) = false) : uniq f ks = false := by
  cases hk : uniq f ks with
  | false => rfl
  | true =>
    rw [← List.take_append_drop k ks] at hk
    unfold uniq at hk h
    simp only [List.all_append, Bool.and_eq_true, decide_eq_true_eq, List.map_append, List.nodup_append] at hk
    rw [hk.1.1, decide_eq_true hk.2.1] at h; simp at h
def V.mark (x : V) : Int × Int × List UInt8 := (x.kind, x.num, x.text)
def pairsOk (xs : List V) : Bool := uniq V.mark (odds xs) && (decide (xs.length % 2 = 0) && decide (xs.length ≤ 300))
def pairsOkI (xs : List V) : Bool := uniq id (odds xs) && decide (xs.length % 2 = 0)
/-- a value is right but for its kids; q says of the kids of a map whether they are pairs -/
def V.selfBy (q : List V → Bool) : V → Bool
  | .mk k n e s kids =>
    if k = 0 ∨ k = 1 ∨ k = 2 then decide (n = 0) && (decide (e = 0) && (decide (s = []) && decide (kids = [])))
    else if k = 3 then decide (e = 0) && (decide (s = []) && decide (kids = []))
    else if k = 4 then decOk n e && (decide (s = []) && decide (kids = []))
    else if k = 5 then decide (n = 0) && (decide (e = 0) && (validD s && (decide (s.length ≤ 2000) && decide (kids = []))))
    else if k = 6 then decide (n = 0) && (decide (e = 0) && (decide (s.length ≤ 2000) && decide (kids = [])))
    else if k = 7 then decide (n = 0) && (decide (e = 0) && decide (s = []))
    else if k = 8 then decide (n = 0) && (decide (e = 0) && (decide (s = []) && q kids))
    else if k = 9 then inR n 0 1000000 && (decide (e = 0) && (decide (s = []) && decide (kids.length = 1)))
    else false
def V.self : V → Bool := V.selfBy pairsOk
def V.selfI : V → Bool := V.selfBy pairsOkI
mutual
/-- right, at most so many kids deep -/
def V.rightBy (q : List V → Bool) : Int → V → Bool
  | d, .mk k n e s kids => V.rightsBy q (d - 1) kids && (decide (0 ≤ d) && V.selfBy q (.mk k n e s kids))
def V.rightsBy (q : List V → Bool) : Int → List V → Bool
  | _, [] => true
  | d, v :: vs => V.rightBy q d v && V.rightsBy q d vs
end
theorem V.rightsBy_all (q : List V → Bool) : ∀ (d : Int) (vs : List V), V.rightsBy q d vs = vs.all (V.rightBy q d)
  | _, [] => rfl
  | d, v :: vs => by simp [V.rightsBy, V.rightsBy_all q d vs]
def V.ok (v : V) : Bool := V.rightBy pairsOk 12 v && decide (v.nodes ≤ 300)

theorem odds_mem {α : Type} : ∀ (l : List α) (x : α), x ∈ odds l → x ∈ l
  | [], x, h => by simp [odds] at h
  | [y], x, h => by simpa [odds] using h
  | a :: b :: r, x, h => by
    simp only [odds, List.mem_cons] at h ⊢
    rcases h with h | h
    · exact .inl h
    · exact .inr (.inr (odds_mem r x h))
theorem V.key_plain {q : List V → Bool} {d : Int} {x : V} (h : V.rightBy q d x = true) (hk : isKeyK x.kind = true) : x = .mk x.kind x.num 0 x.text [] := by
  obtain ⟨k, n, e, s, kids⟩ := x
  simp only [V.rightBy, Bool.and_eq_true, V.selfBy] at h
  simp only [V.kind, isKeyK, Bool.or_eq_true] at hk
  simp only [V.kind, V.num, V.text]
  rcases hk with hk | hk <;> obtain rfl := of_decide_eq_true hk
  · have := h.2.2; simp at this; simp [this]
  · have := h.2.2; simp at this; simp [this]
theorem pairs_same {q : List V → Bool} {d : Int} {xs : List V} (h : V.rightsBy q d xs = true) (hl : xs.length ≤ 300) : pairsOkI xs = pairsOk xs := by
  rw [V.rightsBy_all, List.all_eq_true] at h
  unfold pairsOkI pairsOk
  rw [decide_eq_true hl, Bool.and_true]
  congr 1
  have hm : ∀ x ∈ odds xs, V.rightBy q d x = true := fun x hx => h x (odds_mem _ _ hx)
  generalize odds xs = ks at hm
  unfold uniq
  rw [List.map_id]
  cases hk : ks.all (fun x => isKeyK x.kind) with
  | false => rfl
  | true =>
    rw [List.all_eq_true] at hk
    simp only [Bool.true_and]
    apply decide_eq_decide.2
    rw [List.Nodup, List.Nodup, List.pairwise_map]
    constructor
    · intro hp
      refine List.Pairwise.imp_of_mem (fun ha hb hne e => hne ?_) hp
      rw [V.key_plain (hm _ ha) (hk _ ha), V.key_plain (hm _ hb) (hk _ hb)]
      simp only [V.mark, Prod.mk.injEq] at e
      rw [e.1, e.2.1, e.2.2]
    · intro hp
      refine List.Pairwise.imp_of_mem (fun ha hb hne e => hne ?_) hp
      rw [e]
theorem V.kids_nodes (vs : List V) : vs.length ≤ V.nodess vs := by
  induction vs with
  | nil => simp
  | cons x xs ih => have := x.nodes_pos; simp only [V.nodess, List.length_cons]; omega
mutual
theorem V.right_same : ∀ (d : Int) (v : V), v.nodes ≤ 300 → V.rightBy pairsOkI d v = V.rightBy pairsOk d v
  | d, .mk k n e s kids, h => by
    have hn : V.nodess kids ≤ 300 := by simp only [V.nodes] at h; omega
    have hl : kids.length ≤ 300 := Nat.le_trans (V.kids_nodes kids) hn
    have h1 := V.rights_same (d - 1) kids hn
    simp only [V.rightBy]
    rw [h1]
    cases hr : V.rightsBy pairsOk (d - 1) kids with
    | false => rfl
    | true =>
      have := pairs_same hr hl
      simp only [V.selfBy, this]
theorem V.rights_same : ∀ (d : Int) (vs : List V), V.nodess vs ≤ 300 → V.rightsBy pairsOkI d vs = V.rightsBy pairsOk d vs
  | _, [], _ => rfl
  | d, v :: vs, h => by
    simp only [V.nodess] at h
    simp only [V.rightsBy, V.right_same d v (by omega), V.rights_same d vs (by omega)]
end
theorem V.ok_impl (v : V) : (V.rightBy pairsOkI 12 v && decide (v.nodes ≤ 300)) = v.ok := by
  unfold V.ok
  by_cases h : v.nodes ≤ 300
  · rw [V.right_same 12 v h]
  · rw [decide_eq_false h, Bool.and_false, Bool.and_false]
end Go.Proofs.YthngfihpnfoppaaDoor

namespace Go.Proofs.YthngfihpnfoppaaDoor
open Go.RowKit

theorem cell_lt {w : World} {b o : Nat} {v : Value} (h : w.cell? ⟨b, o, none⟩ = some v) : b < w.heap.size := by
  apply Classical.byContradiction; intro hn
  simp [World.cell?, Array.getElem?_eq_none (Nat.le_of_not_lt hn)] at h

/-- a slice of texts as it reads in memory -/
def StrRow (w : World) (v : Value) (ls : List (List UInt8)) : Prop :=
  ∃ a c, v = .slice a ls.length c ∧ (ls ≠ [] → ∃ b o, a = some ⟨b, o, none⟩ ∧ ∀ k (h : k < ls.length), w.cell? ⟨b, o + k, none⟩ = some (.string ⟨ls[k].toArray⟩))

/-- the first place of s in a list whose first element has the place k, or -1 -/
def ixF : List (List UInt8) → List UInt8 → Nat → Int
  | [], _, _ => -1
  | a :: r, s, k => if a = s then k else ixF r s (k + 1)

theorem ixF_yes {ls : List (List UInt8)} {s : List UInt8} {k : Nat} (hk : k < ls.length) (he : ls[k] = s) : ixF (ls.drop k) s k = k := by
  rw [List.drop_eq_getElem_cons hk, ixF, if_pos he]
theorem ixF_no {ls : List (List UInt8)} {s : List UInt8} {k : Nat} (hk : k < ls.length) (he : ¬ ls[k] = s) : ixF (ls.drop k) s k = ixF (ls.drop (k + 1)) s (k + 1) := by
  rw [List.drop_eq_getElem_cons hk, ixF, if_neg he]
theorem ixF_end {ls : List (List UInt8)} {s : List UInt8} : ixF (ls.drop ls.length) s ls.length = -1 := by
  rw [List.drop_length]; rfl

end Go.Proofs.YthngfihpnfoppaaDoor

namespace Go.Proofs.YthngfihpnfoppaaDoor
open Go.RowKit

/-- the texts among the keys of a map -/
def keysL : List V → List (List UInt8)
  | [] => []
  | [x] => if x.kind = 5 then [x.text] else []
  | x :: _ :: r => if x.kind = 5 then x.text :: keysL r else keysL r
def V.keys (v : V) : List (List UInt8) := if v.kind = 8 then keysL v.kids else []
def V.texts (v : V) : Bool := decide (v.kind = 8) && decide (2 * v.keys.length = v.kids.length)
def Sh.kind : Sh → Int | .mk k _ _ _ _ _ => k
def Sh.low : Sh → Int | .mk _ l _ _ _ _ => l
def Sh.high : Sh → Int | .mk _ _ h _ _ _ => h
def Sh.keys : Sh → List (List UInt8) | .mk _ _ _ ks _ _ => ks
def Sh.must : Sh → Int | .mk _ _ _ _ m _ => m
def Sh.kids : Sh → List Sh | .mk _ _ _ _ _ ks => ks
def allIn (a b : List (List UInt8)) : Bool := a.all fun x => decide (x ∈ b)
/-- a value is of a shape that is no choice, but for its parts -/
def heldB (v : V) (h : Sh) : Bool :=
  if h.kind = 0 then true
  else if h.kind = 1 then decide (v.kind = 0)
  else if h.kind = 2 then decide (v.kind = 1) || decide (v.kind = 2)
  else if h.kind = 3 then decide (v.kind = 3) && inR v.num h.low h.high
  else if h.kind = 4 then decide (v.kind = 3) || decide (v.kind = 4)
  else if h.kind = 5 then decide (v.kind = 5) && inR v.text.length h.low h.high
  else if h.kind = 6 then decide (v.kind = 6) && inR v.text.length h.low h.high
  else if h.kind = 7 then decide (v.kind = 7) && inR v.kids.length h.low h.high
  else v.texts && (allIn v.keys h.keys && allIn (h.keys.take h.must.toNat) v.keys)
def shNil : Sh := .mk 0 0 0 [] 0 []
theorem sh_self7 {l hi m : Int} {ks : List (List UInt8)} {kids : List Sh} (h : Sh.self (.mk 7 l hi ks m kids) = true) : ∃ kid, kids = [kid] := by
  have : kids.length = 1 := by
    unfold Sh.self at h; simp at h; exact h.2.2
  match kids, this with
  | [kid], _ => exact ⟨kid, rfl⟩
theorem sh_self8 {l hi m : Int} {ks : List (List UInt8)} {kids : List Sh} (h : Sh.self (.mk 8 l hi ks m kids) = true) : keysOk ks = true ∧ kids.length = ks.length ∧ 0 ≤ m ∧ m ≤ ks.length := by
  unfold Sh.self at h; simp [Sh.fields] at h; exact ⟨h.2.2.1, h.2.2.2.1, h.2.2.2.2⟩
/-- the first that is wrong among the kids of a list from the i-th on -/
def wrL (f : V → Option (List (List UInt8))) : Nat → List V → Option (List (List UInt8))
  | _, [] => none
  | i, x :: r => match f x with | some p => some (Lib.itoa i :: p) | none => wrL f (i + 1) r
/-- the first that is wrong among the pairs of a map -/
def wrM (f : List UInt8 → V → Option (List (List UInt8))) : List V → Option (List (List UInt8))
  | x :: y :: r => match f x.text y with | some p => some (x.text :: p) | none => wrM f r
  | _ => none
theorem wrL_step {f : V → Option (List (List UInt8))} {xs : List V} {j : Nat} (h : j < xs.length) : wrL f j (xs.drop j) = (match f xs[j] with | some p => some (Lib.itoa j :: p) | none => wrL f (j + 1) (xs.drop (j + 1))) := by
  rw [List.drop_eq_getElem_cons h]; rfl
theorem wrM_step {f : List UInt8 → V → Option (List (List UInt8))} {xs : List V} {j : Nat} (h : 2 * j + 1 < xs.length) : wrM f (xs.drop (2 * j)) = (match f (xs[2 * j]'(by omega)).text xs[2 * j + 1] with | some p => some ((xs[2 * j]'(by omega)).text :: p) | none => wrM f (xs.drop (2 * (j + 1)))) := by
  rw [List.drop_eq_getElem_cons (show 2 * j < xs.length by omega), List.drop_eq_getElem_cons h, show 2 * j + 1 + 1 = 2 * (j + 1) by omega]; rfl
/-- the way to what is wrong -/
def wrg : Nat → V → Sh → Option (List (List UInt8))
  | 0, _, _ => none
  | n + 1, v, h =>
    if h.kind = 9 then (if h.kids.any (fun k => (wrg n v k).isNone) then none else some [])
    else if heldB v h = false then some []
    else if h.kind = 7 then wrL (fun x => wrg n x (h.kids.headD shNil)) 0 v.kids
    else if h.kind = 8 then wrM (fun s y => wrg n y (h.kids.getD (ixF h.keys s 0).toNat shNil)) v.kids
    else none
theorem Sh.ds_length (xs : List Sh) : (Sh.ds xs).length = xs.length := by rw [Sh.ds_map, List.length_map]
theorem Sh.bulk_in : ∀ (vs : List Sh) i (h : i < vs.length), Sh.bulk vs[i] ≤ Sh.bulks vs
  | v :: vs, 0, _ => by simp [Sh.bulks]
  | v :: vs, i + 1, hi => by have := Sh.bulk_in vs i (by simpa using hi); simp only [Sh.bulks, List.getElem_cons_succ]; omega
theorem V.bulk_in : ∀ (vs : List V) i (h : i < vs.length), V.bulk vs[i] ≤ V.bulks vs
  | v :: vs, 0, _ => by simp [V.bulks]
  | v :: vs, i + 1, hi => by have := V.bulk_in vs i (by simpa using hi); simp only [V.bulks, List.getElem_cons_succ]; omega
theorem keysL_half : ∀ xs : List V, 2 * (keysL xs).length ≤ xs.length + 1
  | [] => by simp [keysL]
  | [x] => by simp only [keysL]; split <;> simp
  | x :: y :: r => by
    have := keysL_half r
    simp only [keysL]; split <;> simp only [List.length_cons] <;> omega
/-- where all keys are texts, each of them is one -/
theorem keysL_all : ∀ (xs : List V), 2 * (keysL xs).length = xs.length → ∀ i (h : 2 * i < xs.length), 2 * i + 1 < xs.length ∧ (xs[2 * i]).kind = 5 ∧ (xs[2 * i]).text ∈ keysL xs
  | [], _, i, h => absurd h (by simp)
  | [x], he, i, h => by simp only [keysL] at he; split at he <;> simp at he
  | x :: y :: r, he, i, h => by
    have hh := keysL_half r
    simp only [keysL] at he ⊢
    by_cases hk : x.kind = 5
    · rw [if_pos hk] at he ⊢
      cases i with
      | zero => exact ⟨by simp, hk, List.mem_cons_self⟩
      | succ i =>
        have := keysL_all r (by simp only [List.length_cons] at he; omega) i (by simp only [List.length_cons] at h; omega)
        have e1 : (x :: y :: r)[2 * (i + 1)]'h = r[2 * i]'(by simp only [List.length_cons] at h; omega) := by simp [show 2 * (i + 1) = 2 * i + 1 + 1 by omega]
        refine ⟨by simp only [List.length_cons]; omega, ?_, ?_⟩
        · rw [e1]; exact this.2.1
        · rw [e1]; exact List.mem_cons_of_mem _ this.2.2
    · rw [if_neg hk] at he
      simp only [List.length_cons] at he; omega
theorem V.texts_key {x : V} (h : x.texts = true) (i : Nat) (hi : 2 * i < x.kids.length) : 2 * i + 1 < x.kids.length ∧ (x.kids[2 * i]).kind = 5 ∧ (x.kids[2 * i]).text ∈ x.keys := by
  unfold V.texts at h; simp only [Bool.and_eq_true, decide_eq_true_eq] at h
  unfold V.keys at h ⊢; rw [if_pos h.1] at h ⊢
  exact keysL_all _ h.2 i hi
/-- a map of a shape: each of its keys is one of the shape's -/
theorem heldB_key {x : V} {h : Sh} (hk : h.kind = 8) (hh : heldB x h = true) (i : Nat) (hi : 2 * i < x.kids.length) : 2 * i + 1 < x.kids.length ∧ (x.kids[2 * i]).kind = 5 ∧ (x.kids[2 * i]).text ∈ h.keys := by
  unfold heldB at hh
  rw [if_neg (by omega), if_neg (by omega), if_neg (by omega), if_neg (by omega), if_neg (by omega), if_neg (by omega), if_neg (by omega), if_neg (by omega)] at hh
  simp only [Bool.and_eq_true] at hh
  obtain ⟨h1, h2, _⟩ := hh
  obtain ⟨a, b, c⟩ := V.texts_key h1 i hi
  unfold allIn at h2; rw [List.all_eq_true] at h2
  exact ⟨a, b, of_decide_eq_true (h2 _ c)⟩
end Go.Proofs.YthngfihpnfoppaaDoor

namespace Go.Proofs.YthngfihpnfoppaaDoor
open Go.RowKit

def pI (n : Int) : PC := .v (.int .i64 n)
def pB (b : Bool) : PC := .v (.bool b)
def pS (l : List UInt8) : PC := .v (.string ⟨l.toArray⟩)
def pSr (ks : List (List UInt8)) : List (List PC) := ks.map fun k => [pS k]
def pSs (ks : List (List UInt8)) : PC := .sl 0 (pSr ks)
theorem pSr_er (ks : List (List UInt8)) : erLL (pSr ks) = pSr ks := by
  simp [pSr, erLL_map, erL_map, PC.er, pS, Function.comp_def]
theorem pSs_er (ks : List (List UInt8)) : (pSs ks).er = pSs ks := by simp only [pSs, PC.er, pSr_er]
theorem pSr_tok (ks : List (List UInt8)) : toksLL (pSr ks) = [] := by
  induction ks with
  | nil => rfl
  | cons k ks ih => simp only [pSr, List.map_cons] at ih ⊢; simp [toksLL, toksL, PC.toks, pS] ; simpa [pS] using ih
theorem pSr_own (ks : List (List UInt8)) : ownedLL (pSr ks) = true := by
  induction ks with
  | nil => rfl
  | cons k ks ih => simp only [pSr, List.map_cons] at ih ⊢; simp [ownedLL, ownedL, PC.owned, pS] ; simpa [pS] using ih
theorem dSs_pc (ks : List (List UInt8)) : (dSs ks).pc = [pSs ks] := by
  simp only [dSs, D.pc, pSs, pSr, D.pcE_map, List.map_map]; rfl
theorem dSs_wf (ks : List (List UInt8)) : (dSs ks).wf := by
  simp only [dSs, D.wf]
  refine ⟨fun e he => by obtain ⟨k, _, rfl⟩ := List.mem_map.1 he; rfl, ?_⟩
  induction ks with
  | nil => trivial
  | cons k ks ih => exact ⟨rfl, ih⟩

/-- a shape's cells -/
def shK (kids : List Sh) : List (List PC) := kids.map fun x => x.d.pc
def shC (a : Sh) : List PC := [pI a.kind, pI a.low, pI a.high, pSs a.keys, pI a.must, .sl 0 (shK a.kids)]
theorem Sh.pc_eq (x : Sh) : x.d.pc = shC x := by
  obtain ⟨k, l, h, ks, m, kids⟩ := x
  simp only [Sh.d, D.pc, D.pcs, dSs_pc, D.pcE_map, Sh.ds_map, List.map_map, List.append_nil]
  rfl
theorem shK_eq (kids : List Sh) : shK kids = kids.map shC := by unfold shK; exact List.map_congr_left fun x _ => x.pc_eq
theorem shC_er (x : Sh) : erL (shC x) = shC x := by rw [← Sh.pc_eq]; exact D.pc_er _
theorem shK_er (kids : List Sh) : erLL (shK kids) = shK kids := by
  have : shK kids = D.pcE (kids.map Sh.d) := by rw [D.pcE_map, List.map_map]; rfl
  rw [this]; exact D.pcE_er _
mutual
theorem Sh.wfd : ∀ x : Sh, x.d.wf
  | .mk k l h ks m kids => by
    simp only [Sh.d, D.wf, D.wfs]
    exact ⟨rfl, rfl, rfl, dSs_wf ks, rfl, ⟨fun e he => by rw [Sh.ds_map] at he; obtain ⟨y, _, rfl⟩ := List.mem_map.1 he; exact Sh.width y, Sh.wfds kids⟩, trivial⟩
theorem Sh.wfds : ∀ xs : List Sh, D.wfs (Sh.ds xs)
  | [] => trivial
  | x :: xs => ⟨Sh.wfd x, Sh.wfds xs⟩
end

/-- cells whose rows are all the call's own -/
structure OwnL (nt : Nat) (live : List Nat) (cs : List PC) : Prop where
  own : ownedL cs = true
  nd : (toksL cs).Nodup
  mem : ∀ t ∈ toksL cs, t ∈ live ∧ t < nt
theorem OwnL.mono {nt nt' : Nat} {live live' : List Nat} {cs : List PC} (h : OwnL nt live cs) (hn : nt ≤ nt') (hl : ∀ t ∈ live, t < nt → t ∈ live') : OwnL nt' live' cs :=
  ⟨h.own, h.nd, fun t ht => ⟨hl t (h.mem t ht).1 (h.mem t ht).2, Nat.lt_of_lt_of_le (h.mem t ht).2 hn⟩⟩
theorem ownedLL_append : ∀ a b : List (List PC), ownedLL (a ++ b) = (ownedLL a && ownedLL b)
  | [], b => by simp [ownedLL]
  | c :: cs, b => by simp only [List.cons_append, ownedLL, ownedLL_append cs b, Bool.and_assoc]
theorem toksLL_append : ∀ a b : List (List PC), toksLL (a ++ b) = toksLL a ++ toksLL b
  | [], b => rfl
  | c :: cs, b => by simp only [List.cons_append, toksLL, toksLL_append cs b, List.append_assoc]
theorem toks_sl2 {t : Nat} (h : 2 ≤ t) (es : List (List PC)) : PC.toks (.sl t es) = t :: toksLL es := by rw [PC.toks, if_pos h]
theorem owned_sl2 {t : Nat} (h : 2 ≤ t) (es : List (List PC)) : PC.owned (.sl t es) = ownedLL es := by
  rw [PC.owned, decide_eq_true (show t ≠ 0 by omega)]; simp
mutual
theorem PC.toks_ge : ∀ (c : PC) (t : Nat), t ∈ c.toks → 2 ≤ t
  | .v x, t, h => by simp [PC.toks] at h
  | .bld _ _ _ _, t, h => by simp [PC.toks] at h
  | .anyp, t, h => by simp [PC.toks] at h
  | .row _ _ _, t, h => by simp [PC.toks] at h
  | .sl s es, t, h => by
    by_cases h2 : 2 ≤ s
    · rw [PC.toks, if_pos h2] at h
      rcases List.mem_cons.1 h with rfl | h
      · exact h2
      · exact toksLL_ge es t h
    · rw [PC.toks, if_neg h2] at h; exact toksLL_ge es t h
theorem toksL_ge : ∀ (l : List PC) (t : Nat), t ∈ toksL l → 2 ≤ t
  | [], t, h => by simp [toksL] at h
  | c :: cs, t, h => by
    rw [toksL, List.mem_append] at h
    exact h.elim (PC.toks_ge c t) (toksL_ge cs t)
theorem toksLL_ge : ∀ (l : List (List PC)) (t : Nat), t ∈ toksLL l → 2 ≤ t
  | [], t, h => by simp [toksLL] at h
  | c :: cs, t, h => by
    rw [toksLL, List.mem_append] at h
    exact h.elim (toksL_ge c t) (toksLL_ge cs t)
end
theorem toks_sl1 (es : List (List PC)) : PC.toks (.sl 1 es) = toksLL es := by rw [PC.toks, if_neg (by decide)]
theorem owned_sl1 (es : List (List PC)) : PC.owned (.sl 1 es) = ownedLL es := by
  rw [PC.owned, decide_eq_true (show (1 : Nat) ≠ 0 by omega)]; simp
/-- an element of own rows, made since, appended to a row of one's own -/
theorem OwnL.push {nt nt' t : Nat} {live : List Nat} {a b : List PC} {rows : List (List PC)} {e : List PC} (h : OwnL nt live (a ++ .sl t rows :: b)) (h2 : 2 ≤ t) (hn : nt ≤ nt') (he : ownedL e = true) (hd : (toksL e).Nodup) (hm : ∀ t ∈ toksL e, nt ≤ t ∧ t < nt') (hnt : 2 ≤ nt') :
    OwnL (nt' + 1) (nt' :: (toksL e ++ live).filter (· != t)) (a ++ .sl nt' (rows ++ [e]) :: b) := by
  obtain ⟨o1, o2, o3⟩ := h
  rw [ownedL_append, ownedL, owned_sl2 h2, Bool.and_eq_true, Bool.and_eq_true] at o1
  rw [toksL_append, toksL, toks_sl2 h2] at o2 o3
  have q := o2
  rw [List.nodup_append] at q
  obtain ⟨q1, q2, q3⟩ := q
  rw [List.cons_append, List.nodup_cons, List.nodup_append] at q2
  obtain ⟨q4, q5, q6, q7⟩ := q2
  have hlt : ∀ x, x ∈ toksL a ∨ x ∈ toksLL rows ∨ x ∈ toksL b → x ∈ live ∧ x < nt ∧ x ≠ t := by
    rintro x (hx | hx | hx)
    · have := o3 x (by simp [hx]); exact ⟨this.1, this.2, fun e => q3 x hx t (by simp) e⟩
    · have := o3 x (by simp [hx]); exact ⟨this.1, this.2, fun e => q4 (by simp [← e, hx])⟩
    · have := o3 x (by simp [hx]); exact ⟨this.1, this.2, fun e => q4 (by simp [← e, hx])⟩
  have ht := o3 t (by simp)
  refine ⟨?_, ?_, ?_⟩
  · rw [ownedL_append, ownedL, owned_sl2 hnt, ownedLL_append, o1.1, o1.2.1, o1.2.2]; simp [ownedLL, he]
  · rw [toksL_append, toksL, toks_sl2 hnt, toksLL_append]
    simp only [toksLL, List.append_nil, List.cons_append]
    rw [List.nodup_append]
    refine ⟨q1, List.nodup_cons.2 ⟨fun hx => ?_, ?_⟩, fun x hx y hy hxy => ?_⟩
    · simp only [List.mem_append] at hx
      rcases hx with (hx | hx) | hx
      · have := hlt nt' (.inr (.inl hx)); omega
      · have := hm nt' hx; omega
      · have := hlt nt' (.inr (.inr hx)); omega
    · rw [List.append_assoc, List.nodup_append]
      refine ⟨q5, List.nodup_append.2 ⟨hd, q6, fun x hx y hy hxy => ?_⟩, fun x hx y hy hxy => ?_⟩
      · subst hxy; have := hm x hx; have := hlt x (.inr (.inr hy)); omega
      · subst hxy
        rcases List.mem_append.1 hy with hy | hy
        · have := hm x hy; have := hlt x (.inr (.inl hx)); omega
        · exact q7 x hx x hy rfl
    · subst hxy
      simp only [List.mem_cons, List.mem_append] at hy
      rcases hy with hy | (hy | hy) | hy
      · have := hlt x (.inl hx); omega
      · exact q3 x hx x (by simp [hy]) rfl
      · have := hm x hy; have := hlt x (.inl hx); omega
      · exact q3 x hx x (by simp [hy]) rfl
  · intro x hx
    rw [toksL_append, toksL, toks_sl2 hnt, toksLL_append] at hx
    simp only [toksLL, List.append_nil, List.cons_append, List.mem_append, List.mem_cons] at hx
    have old : x ∈ toksL a ∨ x ∈ toksLL rows ∨ x ∈ toksL b → x ∈ nt' :: (toksL e ++ live).filter (· != t) ∧ x < nt' + 1 := by
      intro hx
      have := hlt x hx
      refine ⟨List.mem_cons.2 (.inr (List.mem_filter.2 ⟨List.mem_append.2 (.inr this.1), by simpa using this.2.2⟩)), by omega⟩
    rcases hx with hx | hx | (hx | hx) | hx
    · exact old (.inl hx)
    · exact ⟨by simp [hx], by omega⟩
    · exact old (.inr (.inl hx))
    · have := hm x hx
      refine ⟨List.mem_cons.2 (.inr (List.mem_filter.2 ⟨List.mem_append.2 (.inl hx), ?_⟩)), by omega⟩
      have : x ≠ t := by omega
      simpa using this
    · exact old (.inr (.inr hx))
/-- the first element of own rows, appended to nil -/
theorem OwnL.push1 {nt nt' : Nat} {live : List Nat} {a b : List PC} {e : List PC} (h : OwnL nt live (a ++ .sl 1 [] :: b)) (hn : nt ≤ nt') (he : ownedL e = true) (hd : (toksL e).Nodup) (hm : ∀ t ∈ toksL e, nt ≤ t ∧ t < nt') (hnt : 2 ≤ nt') :
    OwnL (nt' + 1) (nt' :: (toksL e ++ live).filter (· != 1)) (a ++ .sl nt' ([] ++ [e]) :: b) := by
  obtain ⟨o1, o2, o3⟩ := h
  rw [ownedL_append, ownedL, owned_sl1, Bool.and_eq_true, Bool.and_eq_true] at o1
  rw [toksL_append, toksL, toks_sl1] at o2 o3
  simp only [toksLL, List.nil_append] at o2 o3
  have q := o2
  rw [List.nodup_append] at q
  obtain ⟨q1, q2, q3⟩ := q
  have hlt : ∀ x, x ∈ toksL a ∨ x ∈ toksL b → x ∈ live ∧ x < nt := fun x hx => o3 x (List.mem_append.2 hx)
  refine ⟨?_, ?_, ?_⟩
  · rw [ownedL_append, ownedL, owned_sl2 hnt, o1.1, o1.2.2]; simp [ownedLL, he]
  · rw [toksL_append, toksL, toks_sl2 hnt]
    simp only [toksLL, List.append_nil, List.cons_append, List.nil_append]
    rw [List.nodup_append]
    refine ⟨q1, List.nodup_cons.2 ⟨fun hx => ?_, List.nodup_append.2 ⟨hd, q2, fun x hx y hy hxy => ?_⟩⟩, fun x hx y hy hxy => ?_⟩
    · rcases List.mem_append.1 hx with hx | hx
      · have := hm nt' hx; omega
      · have := hlt nt' (.inr hx); omega
    · subst hxy; have := hm x hx; have := hlt x (.inr hy); omega
    · subst hxy
      have := hlt x (.inl hx)
      rcases List.mem_cons.1 hy with hy | hy
      · omega
      · rcases List.mem_append.1 hy with hy | hy
        · have := hm x hy; omega
        · exact q3 x hx x hy rfl
  · intro x hx
    have hx2 := toksL_ge _ x hx
    rw [toksL_append, toksL, toks_sl2 hnt] at hx
    simp only [toksLL, List.append_nil, List.cons_append, List.nil_append, List.mem_append, List.mem_cons] at hx
    have hf : ∀ y, 2 ≤ y → y ∈ toksL e ++ live → y ∈ nt' :: (toksL e ++ live).filter (· != 1) := by
      intro y h2 hy
      have : y ≠ 1 := by omega
      exact List.mem_cons.2 (.inr (List.mem_filter.2 ⟨hy, by simpa using this⟩))
    rcases hx with hx | hx | hx | hx
    · have := hlt x (.inl hx); exact ⟨hf x hx2 (List.mem_append.2 (.inr this.1)), by omega⟩
    · exact ⟨by simp [hx], by omega⟩
    · have := hm x hx; exact ⟨hf x hx2 (List.mem_append.2 (.inl hx)), by omega⟩
    · have := hlt x (.inr hx); exact ⟨hf x hx2 (List.mem_append.2 (.inr this.1)), by omega⟩
/-- cells of a call's result: rows of its own, with names since -/
structure NewL (nt nt' : Nat) (cs : List PC) : Prop where
  own : ownedL cs = true
  nd : (toksL cs).Nodup
  mem : ∀ t ∈ toksL cs, nt ≤ t ∧ t < nt'
theorem NewL.ownL {nt nt' : Nat} {cs : List PC} (h : NewL nt nt' cs) (live : List Nat) : OwnL nt' (toksL cs ++ live) cs := ⟨h.own, h.nd, fun t ht => ⟨List.mem_append.2 (.inl ht), (h.mem t ht).2⟩⟩
/-- a call of a function that returns a shape in rows of its own -/
theorem po_sh {E : Env} {d : Nat} {c : List X} {r : List MOpr} {K : St → Prop} {tm : Nat → PV} {bx : List (List PC)} {nt : Nat} {live : List Nat} {f : Nat} {xs : List X} {args : List PV} {y : Sh} (hd : PV.dats (xs.map (ev tm)) = some args) (hF : FnO E f args (.ag (shC y)))
    (h : ∀ (c0 c1 c2 c3 c4 c5 : PC) (nt' : Nat), erL [c0, c1, c2, c3, c4, c5] = shC y → nt + 2 ≤ nt' → NewL nt nt' [c0, c1, c2, c3, c4, c5] → po E r K ⟨up d (.ag [c0, c1, c2, c3, c4, c5]) tm, bx, nt', toksL [c0, c1, c2, c3, c4, c5] ++ live⟩) : po E (⟨some d, .call f xs, none, c⟩ :: r) K ⟨tm, bx, nt, live⟩ := by
  refine po_own hd hF ?_
  rintro (_ | cs | _ | _ | _ | _) nt2 hx hnd hmem hnt2 hown <;> try exact hown.elim
  · simp [PV.dat] at hx
  simp only [PV.dat, Option.some.injEq, PV.ag.injEq] at hx
  have hcs : cs.length = 6 := by
    have := congrArg List.length hx
    rw [erL_map] at this; simpa [shC] using this
  match cs, hcs with
  | [c0, c1, c2, c3, c4, c5], _ => exact h c0 c1 c2 c3 c4 c5 nt2 hx hnt2 ⟨hown, hnd, hmem⟩
theorem shC_arg (x : Sh) : PV.dats [.ag (shC x)] = some [.ag (shC x)] := congrArg (fun l => some [PV.ag l]) (shC_er x)
theorem shC_arg2 (x y : Sh) : PV.dats [.ag (shC x), .ag (shC y)] = some [.ag (shC x), .ag (shC y)] := by
  show some [PV.ag (erL (shC x)), PV.ag (erL (shC y))] = _
  rw [shC_er, shC_er]
end Go.Proofs.YthngfihpnfoppaaDoor

namespace Go.Proofs.YthngfihpnfoppaaDoor
open Go.RowKit

def has (tm : Nat → PV) : List (Nat × PV) → Prop
  | [] => True
  | (d, v) :: r => tm d = v ∧ has tm r
def ups : List (Nat × PV) → (Nat → PV) → Nat → PV
  | [], tm => tm
  | (d, v) :: r, tm => up d v (ups r tm)
theorem has_ups : ∀ {l : List (Nat × PV)} {tm : Nat → PV}, has tm l → ∃ tm0, tm = ups l tm0 := by
  intro l tm h
  refine ⟨tm, ?_⟩
  induction l with
  | nil => rfl
  | cons p l ih =>
    obtain ⟨d, v⟩ := p
    simp only [ups]
    rw [← ih h.2, up_self h.1]
theorem erLL_len {rows : List (List PC)} {rs : List (List PC)} (h : erLL rows = rs) : rows.length = rs.length := by rw [← h, erLL_map]; simp
theorem erLL_wid {rows rs : List (List PC)} {n : Nat} (h : erLL rows = rs) (hr : ∀ e ∈ rs, e.length = n) : ∀ e ∈ rows, e.length = n := by
  intro e he
  have : erL e ∈ rs := by rw [← h, erLL_map]; exact List.mem_map.2 ⟨e, he, rfl⟩
  have := hr _ this
  rw [erL_map] at this; simpa using this
theorem erLL_append (a b : List (List PC)) : erLL (a ++ b) = erLL a ++ erLL b := by simp [erLL_map]
theorem shK_wid (kids : List Sh) : ∀ e ∈ shK kids, e.length = 6 := by
  intro e he; rw [shK_eq] at he; obtain ⟨x, _, rfl⟩ := List.mem_map.1 he; rfl
theorem pSr_wid (ks : List (List UInt8)) : ∀ e ∈ pSr ks, e.length = 1 := by
  intro e he; obtain ⟨x, _, rfl⟩ := List.mem_map.1 he; rfl
theorem shK_get {kids : List Sh} {j : Nat} (h : j < kids.length) : (shK kids)[j]? = some (shC kids[j]) := by
  rw [shK_eq, List.getElem?_map, List.getElem?_eq_getElem h]; rfl
theorem shK_take {kids : List Sh} {j : Nat} (h : j < kids.length) : shK (kids.take (j + 1)) = shK (kids.take j) ++ [shC kids[j]] := by
  rw [shK_eq, shK_eq, List.take_succ_eq_append_getElem h, List.map_append]; rfl
theorem shK_len (kids : List Sh) : (shK kids).length = kids.length := by simp [shK]
theorem pSr_len (ks : List (List UInt8)) : (pSr ks).length = ks.length := by simp [pSr]
theorem pSr_get {ks : List (List UInt8)} {j : Nat} (h : j < ks.length) : (pSr ks)[j]? = some [pS ks[j]] := by
  rw [pSr, List.getElem?_map, List.getElem?_eq_getElem h]; rfl
theorem six {α : Type} {l : List α} (h : l.length = 6) : ∃ a b c d e f, l = [a, b, c, d, e, f] := by
  match l, h with
  | [a, b, c, d, e, f], _ => exact ⟨a, b, c, d, e, f, rfl⟩
theorem wrap_lt {n : Int} (h : 0 ≤ n) (h2 : n < 9223372036854775808) : IntKind.wrap .i64 n = n := by
  rw [IntKind.wrap_i64]; omega
/-- the cells of a shape whose keys and parts lie in these rows -/
def shO (x : Sh) (ks kids : PC) : List PC := [pI x.kind, pI x.low, pI x.high, ks, pI x.must, kids]
theorem shO_er {x : Sh} {ks kids : PC} (h1 : ks.er = pSs x.keys) (h2 : kids.er = .sl 0 (shK x.kids)) : erL (shO x ks kids) = shC x := by
  simp only [shO, erL, h1, h2]; rfl
theorem sh_cells {c0 c1 c2 c3 c4 c5 : PC} {y : Sh} (h : erL [c0, c1, c2, c3, c4, c5] = shC y) : ∃ t3 r3 t5 r5, c0 = pI y.kind ∧ c1 = pI y.low ∧ c2 = pI y.high ∧ c3 = .sl t3 r3 ∧ c4 = pI y.must ∧ c5 = .sl t5 r5 ∧ erLL r3 = pSr y.keys ∧ erLL r5 = shK y.kids := by
  simp only [erL, shC, List.cons.injEq, and_true] at h
  obtain ⟨h0, h1, h2, h3, h4, h5⟩ := h
  have e : ∀ (c : PC) (n : Int), c.er = pI n → c = pI n := by
    intro c n hc
    cases c with
    | v x => exact hc
    | bld p T t U => simp [PC.er, pI] at hc
    | anyp => simp [PC.er, pI] at hc
    | row => simp [PC.er, pI] at hc
    | sl t es => simp [PC.er, pI] at hc
  have f : ∀ (c : PC) (es : List (List PC)), c.er = .sl 0 es → ∃ t r, c = .sl t r ∧ erLL r = es := by
    intro c es hc
    cases c with
    | v x => simp [PC.er] at hc
    | bld p T t U => simp [PC.er] at hc
    | anyp => simp [PC.er] at hc
    | row => simp [PC.er] at hc
    | sl t r => simp only [PC.er, PC.sl.injEq, true_and] at hc; exact ⟨t, r, rfl, hc⟩
  obtain ⟨t3, r3, e3, f3⟩ := f c3 _ h3
  obtain ⟨t5, r5, e5, f5⟩ := f c5 _ h5
  exact ⟨t3, r3, t5, r5, e _ _ h0, e _ _ h1, e _ _ h2, e3, e _ _ h4, e5, f3, f5⟩
theorem shO_row {x : Sh} {t3 t5 : Nat} {r3 r5 : List (List PC)} (h3 : erLL r3 = pSr x.keys) (h5 : erLL r5 = shK x.kids) : erL (shO x (.sl t3 r3) (.sl t5 r5)) = shC x := shO_er (by simp only [PC.er, h3]; rfl) (by simp only [PC.er, h5])
/-- a comparison, and its two ways -/
theorem po_bc {E : Env} {d : Nat} {op : BinOp} {isb : Bool} {x y : X} {g : Option (Nat × Bool)} {c : List X} {r : List MOpr} {K : St → Prop} {tm : Nat → PV} {bx : List (List PC)} {nt : Nat} {live : List Nat} {e : Bool} (hg : gd g tm = some true) (hq : qf (ev tm) bx (.bin op isb x y) = some (.d (.v (.bool e))))
    (h1 : e = true → po E r K ⟨up d (.d (.v (.bool true))) tm, bx, nt, live⟩) (h0 : e = false → po E r K ⟨up d (.d (.v (.bool false))) tm, bx, nt, live⟩) : po E (⟨some d, .bin op isb x y, g, c⟩ :: r) K ⟨tm, bx, nt, live⟩ := by
  refine po_q hg hq ?_
  cases e with
  | true => exact h1 rfl
  | false => exact h0 rfl
theorem OwnL.drop {nt t : Nat} {live : List Nat} {a b : List PC} {rows : List (List PC)} (h : OwnL nt live (a ++ .sl t rows :: b)) : OwnL nt live (a ++ .sl 1 [] :: b) := by
  obtain ⟨o1, o2, o3⟩ := h
  have hsub : (toksL (a ++ .sl 1 [] :: b)).Sublist (toksL (a ++ .sl t rows :: b)) := by
    rw [toksL_append, toksL_append]
    refine List.Sublist.append (List.Sublist.refl _) ?_
    simp only [toksL]
    refine List.Sublist.append ?_ (List.Sublist.refl _)
    rw [toks_sl1]; exact List.nil_sublist _
  refine ⟨?_, o2.sublist hsub, fun x hx => o3 x (hsub.subset hx)⟩
  rw [ownedL_append, ownedL, Bool.and_eq_true, Bool.and_eq_true] at o1
  rw [ownedL_append, ownedL, o1.1, o1.2.2]; rfl
end Go.Proofs.YthngfihpnfoppaaDoor

namespace Go.Proofs.YthngfihpnfoppaaDoor
open Go.RowKit

section
variable {E : Env} {K : St → Prop} {tm : Nat → PV} {bx : List (List PC)} {nt d : Nat} {live : List Nat} {r : List MOpr}
/-- a whole box is read -/
theorem po_ldw {n p : Nat} {x : X} {g : Option (Nat × Bool)} {c : List X} {cs : List PC} (hg : gd g tm = some true) (hx : ev tm x = .ref p 0) (hb : bx[p]? = some cs) (hn : cs.length = n) (h : po E r K ⟨up d (.ag cs) tm, bx, nt, live⟩) : po E (⟨some d, .load true n x, g, c⟩ :: r) K ⟨tm, bx, nt, live⟩ := by
  refine po_q hg ?_ h
  simp only [qf, hx, hb, Nat.zero_add, List.drop_zero, ldv, hn, Nat.le_refl, if_true]
  rw [← hn, List.take_length]
/-- a whole box is written -/
theorem po_stw {n p : Nat} {a x : X} {c : List X} {cs z : List PC} (ha : ev tm a = .ref p 0) (hx : ev tm x = .ag cs) (hb : bx[p]? = some z) (hn : cs.length = n) (hz : z.length = n) (hc : c.all (apartX (ev tm) a) = true) (h : po E r K ⟨tm, bx.set p cs, nt, live⟩) : po E (⟨none, .store n a x, none, c⟩ :: r) K ⟨tm, bx, nt, live⟩ := by
  have hs : spl z 0 cs = cs := by
    unfold spl
    rw [List.take_zero, List.nil_append, Nat.zero_add, hn, ← hz, List.drop_length, List.append_nil]
  have hx' : pcells (ev tm x) = some cs := by rw [hx]; rfl
  refine po_store ha hx' hb ⟨hn, by omega⟩ hc ?_
  rw [hs]; exact h
/-- a call that returns a struct in rows of its own -/
theorem po_ownN {n f : Nat} {xs : List X} {args : List PV} {c : List X} {v : List PC} (hd : PV.dats (xs.map (ev tm)) = some args) (hF : FnO E f args (.ag v)) (hn : v.length = n)
    (h : ∀ (cs : List PC) (nt' : Nat), erL cs = v → cs.length = n → nt ≤ nt' → NewL nt nt' cs → po E r K ⟨up d (.ag cs) tm, bx, nt', toksL cs ++ live⟩) : po E (⟨some d, .call f xs, none, c⟩ :: r) K ⟨tm, bx, nt, live⟩ := by
  refine po_own hd hF ?_
  rintro (_ | cs | _ | _ | _ | _) nt2 hx hnd hmem hnt2 hown <;> try exact hown.elim
  · simp [PV.dat] at hx
  simp only [PV.dat, Option.some.injEq, PV.ag.injEq] at hx
  refine h cs nt2 hx ?_ (by omega) ⟨hown, hnd, hmem⟩
  have := congrArg List.length hx
  rw [erL_map, List.length_map] at this; omega
end
/-- what is known of the state, said anew -/
theorem mw_at {E : Env} {B : Base} {m : M} {Q : Exit → St → Prop} {s : St} (I : St → Prop) (h : I s) (k : ∀ tm bx nt live, I ⟨tm, bx, nt, live⟩ → mw E B m Q ⟨tm, bx, nt, live⟩) : mw E B m Q s := by
  obtain ⟨tm, bx, nt, live⟩ := s
  exact k tm bx nt live h
theorem dats1 {a v : List PC} (h : erL a = v) : PV.dats [.ag a] = some [.ag v] := by rw [← h]; rfl
theorem dats2 {a b v w : List PC} (h : erL a = v) (k : erL b = w) : PV.dats [.ag a, .ag b] = some [.ag v, .ag w] := by rw [← h, ← k]; rfl
theorem dats1i {a v : List PC} (h : erL a = v) (x : Value) : PV.dats [.ag a, .d (.v x)] = some [.ag v, .d (.v x)] := by rw [← h]; rfl
/-- names of rows made at different times -/
theorem NewL.lt {a b : Nat} {cs : List PC} (h : NewL a b cs) {c d : Nat} {ds : List PC} (k : NewL c d ds) (hbc : b ≤ c) : ∀ t ∈ toksL cs, t ∉ toksL ds := fun t h1 h2 => by
  have := (h.mem t h1).2; have := (k.mem t h2).1; omega
theorem NewL.gt {a b : Nat} {cs : List PC} (h : NewL a b cs) {c d : Nat} {ds : List PC} (k : NewL c d ds) (hbc : d ≤ a) : ∀ t ∈ toksL cs, t ∉ toksL ds := fun t h1 h2 => by
  have := (h.mem t h1).1; have := (k.mem t h2).2; omega
end Go.Proofs.YthngfihpnfoppaaDoor

namespace Go.Proofs.YthngfihpnfoppaaDoor
open Go.RowKit

/-- a value's cells -/
def vK (kids : List V) : List (List PC) := kids.map fun x => x.d.pc
def vC (v : V) : List PC := [pI v.kind, pI v.num, pI v.exp, pS v.text, .sl 0 (vK v.kids)]
theorem V.pc_eq (x : V) : x.d.pc = vC x := by
  obtain ⟨k, n, e, s, kids⟩ := x
  simp only [V.d, D.pc, D.pcs, D.pcE_map, V.ds_map, List.map_map, List.append_nil]
  rfl
theorem vK_eq (kids : List V) : vK kids = kids.map vC := by unfold vK; exact List.map_congr_left fun x _ => x.pc_eq
theorem vC_er (x : V) : erL (vC x) = vC x := by rw [← V.pc_eq]; exact D.pc_er _
theorem vK_er (kids : List V) : erLL (vK kids) = vK kids := by
  have : vK kids = D.pcE (kids.map V.d) := by rw [D.pcE_map, List.map_map]; rfl
  rw [this]; exact D.pcE_er _
mutual
theorem V.wfd : ∀ x : V, x.d.wf
  | .mk k n e s kids => by
    simp only [V.d, D.wf, D.wfs]
    exact ⟨rfl, rfl, rfl, rfl, ⟨fun e he => by rw [V.ds_map] at he; obtain ⟨y, _, rfl⟩ := List.mem_map.1 he; exact V.width y, V.wfds kids⟩, trivial⟩
theorem V.wfds : ∀ xs : List V, D.wfs (V.ds xs)
  | [] => trivial
  | x :: xs => ⟨V.wfd x, V.wfds xs⟩
end
theorem vK_wid (kids : List V) : ∀ e ∈ vK kids, e.length = 5 := by
  intro e he; rw [vK_eq] at he; obtain ⟨x, _, rfl⟩ := List.mem_map.1 he; rfl
theorem vK_get {kids : List V} {j : Nat} (h : j < kids.length) : (vK kids)[j]? = some (vC kids[j]) := by
  rw [vK_eq, List.getElem?_map, List.getElem?_eq_getElem h]; rfl
theorem vK_len (kids : List V) : (vK kids).length = kids.length := by simp [vK]
theorem vC_arg (x : V) : PV.dats [.ag (vC x)] = some [.ag (vC x)] := congrArg (fun l => some [PV.ag l]) (vC_er x)
theorem V.pld (x : V) : x.d.pl := by
  obtain ⟨k, n, e, s, kids⟩ := x
  simp [V.d, D.pl, D.pls, dI, dS]
theorem V.pcl (x : V) : x.d.pc.length = 5 := by rw [x.pc_eq]; rfl
end Go.Proofs.YthngfihpnfoppaaDoor

namespace Go.Proofs.YthngfihpnfoppaaDoor
open Go.RowKit

section
variable {E : Env} {K : St → Prop} {tm : Nat → PV} {bx : List (List PC)} {nt d : Nat} {live : List Nat} {r : List MOpr} {g : Option (Nat × Bool)} {c : List X} {x y : X} {a b n : Int}
theorem po_add (hg : gd g tm = some true) (hx : ev tm x = .d (pI a)) (hy : ev tm y = .d (pI b)) (hn : a + b = n) (h1 : -9223372036854775808 ≤ n ∧ n ≤ 9223372036854775807) (h : po E r K ⟨up d (.d (pI n)) tm, bx, nt, live⟩) : po E (⟨some d, .bin .add false x y, g, c⟩ :: r) K ⟨tm, bx, nt, live⟩ := by
  refine po_q hg ?_ h
  simp only [qf, hx, hy, pI]
  show some (PV.d (.v (.int .i64 (IntKind.wrap .i64 (a + b))))) = some (PV.d (.v (.int .i64 n)))
  have e : IntKind.wrap .i64 (a + b) = n := by rw [hn, IntKind.wrap_i64]; omega
  rw [e]
theorem po_sub (hg : gd g tm = some true) (hx : ev tm x = .d (pI a)) (hy : ev tm y = .d (pI b)) (hn : a - b = n) (h1 : -9223372036854775808 ≤ n ∧ n ≤ 9223372036854775807) (h : po E r K ⟨up d (.d (pI n)) tm, bx, nt, live⟩) : po E (⟨some d, .bin .sub false x y, g, c⟩ :: r) K ⟨tm, bx, nt, live⟩ := by
  refine po_q hg ?_ h
  simp only [qf, hx, hy, pI]
  show some (PV.d (.v (.int .i64 (IntKind.wrap .i64 (a - b))))) = some (PV.d (.v (.int .i64 n)))
  have e : IntKind.wrap .i64 (a - b) = n := by rw [hn, IntKind.wrap_i64]; omega
  rw [e]
theorem po_mul (hg : gd g tm = some true) (hx : ev tm x = .d (pI a)) (hy : ev tm y = .d (pI b)) (hn : a * b = n) (h1 : -9223372036854775808 ≤ n ∧ n ≤ 9223372036854775807) (h : po E r K ⟨up d (.d (pI n)) tm, bx, nt, live⟩) : po E (⟨some d, .bin .mul false x y, g, c⟩ :: r) K ⟨tm, bx, nt, live⟩ := by
  refine po_q hg ?_ h
  simp only [qf, hx, hy, pI]
  show some (PV.d (.v (.int .i64 (IntKind.wrap .i64 (a * b))))) = some (PV.d (.v (.int .i64 n)))
  have e : IntKind.wrap .i64 (a * b) = n := by rw [hn, IntKind.wrap_i64]; omega
  rw [e]
end
/-- two texts joined -/
theorem po_cat {E : Env} {K : St → Prop} {tm : Nat → PV} {bx : List (List PC)} {nt d : Nat} {live : List Nat} {r : List MOpr} {g : Option (Nat × Bool)} {c : List X} {x y : X} {la lb : List UInt8} (hg : gd g tm = some true) (hx : ev tm x = .d (pS la)) (hy : ev tm y = .d (pS lb)) (hl : la.length + lb.length ≤ 9223372036854775807) (h : po E r K ⟨up d (.d (pS (la ++ lb))) tm, bx, nt, live⟩) : po E (⟨some d, .bin .add false x y, g, c⟩ :: r) K ⟨tm, bx, nt, live⟩ := by
  refine po_q hg ?_ h
  simp only [qf, hx, hy, pS]
  have e1 : (⟨la.toArray⟩ : ByteArray).size = la.length := by simp [ByteArray.size]
  have e2 : (⟨lb.toArray⟩ : ByteArray).size = lb.length := by simp [ByteArray.size]
  show Option.map _ (if (⟨la.toArray⟩ : ByteArray).size + (⟨lb.toArray⟩ : ByteArray).size ≤ 9223372036854775807 then some (Value.string ((⟨la.toArray⟩ : ByteArray) ++ ⟨lb.toArray⟩)) else none) = _
  rw [if_pos (by rw [e1, e2]; exact hl), bytes_append]
  rfl
/-- a row that may be empty grows -/
theorem OwnL.pushA {nt nt' t : Nat} {live : List Nat} {a b : List PC} {rows : List (List PC)} {e : List PC} (h : OwnL nt live (a ++ .sl t rows :: b)) (ht : t = 1 ∧ rows = [] ∨ 2 ≤ t) (hn : nt ≤ nt') (he : ownedL e = true) (hd : (toksL e).Nodup) (hm : ∀ t ∈ toksL e, nt ≤ t ∧ t < nt') (hnt : 2 ≤ nt') :
    OwnL (nt' + 1) (nt' :: (toksL e ++ live).filter (· != t)) (a ++ .sl nt' (rows ++ [e]) :: b) := by
  rcases ht with ⟨rfl, rfl⟩ | h2
  · exact h.push1 hn he hd hm hnt
  · exact h.push h2 hn he hd hm hnt
theorem OwnL.app {nt t : Nat} {live : List Nat} {a b : List PC} {rows : List (List PC)} (h : OwnL nt live (a ++ .sl t rows :: b)) (ht : t = 1 ∧ rows = [] ∨ 2 ≤ t) (l : List Nat) : t = 1 ∨ t ∈ l ++ live := by
  rcases ht with ht | h2
  · exact .inl ht.1
  · refine .inr (List.mem_append.2 (.inr (h.mem t ?_).1))
    rw [toksL_append]; simp [toksL, PC.toks, h2]
theorem OwnL.nt {nt nt' : Nat} {live live' : List Nat} {cs : List PC} (h : OwnL nt live cs) (hn : nt ≤ nt') (hl : ∀ t ∈ live, t ∈ live') : OwnL nt' live' cs := h.mono hn fun t ht _ => hl t ht
/-- a result that is a whole box -/
theorem ress_box {tm : Nat → PV} {bx : List (List PC)} {nt : Nat} {live : List Nat} {n t p : Nat} {cs : List PC} (ht : tm t = .ref p 0) (hb : bx[p]? = some cs) (hn : cs.length = n) : ressM ⟨tm, bx, nt, live⟩ [.cell true n t] = some [.ag cs] := by
  simp only [ressM, resM, ht, hb, Nat.zero_add, List.drop_zero, ldv, hn, Nat.le_refl, if_true]
  rw [← hn, List.take_length]
end Go.Proofs.YthngfihpnfoppaaDoor

namespace Go.Proofs.YthngfihpnfoppaaDoor
open Go.RowKit

mutual
/-- no builder of a box from n on is named -/
def PC.lw (n : Nat) : PC → Prop
  | .v _ => True
  | .bld p _ _ _ => p < n
  | .anyp => True
  | .row p _ _ => p < n
  | .sl _ es => lwLL n es
def lwL (n : Nat) : List PC → Prop
  | [] => True
  | c :: cs => PC.lw n c ∧ lwL n cs
def lwLL (n : Nat) : List (List PC) → Prop
  | [] => True
  | l :: ls => lwL n l ∧ lwLL n ls
end
mutual
def PV.lw (n : Nat) : PV → Prop
  | .d c => c.lw n
  | .ag cs => lwL n cs
  | .tup vs => lwVs n vs
  | .raw _ => True
  | .ref _ _ => False
  | .pt _ => False
  | .fn _ _ => False
def lwVs (n : Nat) : List PV → Prop
  | [] => True
  | v :: vs => PV.lw n v ∧ lwVs n vs
end
theorem lwL_get {n : Nat} : ∀ {cs : List PC} (j : Nat) (c : PC), lwL n cs → cs[j]? = some c → c.lw n
  | c :: cs, 0, _, h, e => by simp at e; subst e; exact h.1
  | c :: cs, j + 1, _, h, e => lwL_get j _ h.2 (by simpa using e)
theorem lwLL_get {n : Nat} : ∀ {cs : List (List PC)} (j : Nat) (c : List PC), lwLL n cs → cs[j]? = some c → lwL n c
  | c :: cs, 0, _, h, e => by simp at e; subst e; exact h.1
  | c :: cs, j + 1, _, h, e => lwLL_get j _ h.2 (by simpa using e)
theorem lwVs_get {n : Nat} : ∀ {cs : List PV} (j : Nat) (c : PV), lwVs n cs → cs[j]? = some c → c.lw n
  | c :: cs, 0, _, h, e => by simp at e; subst e; exact h.1
  | c :: cs, j + 1, _, h, e => lwVs_get j _ h.2 (by simpa using e)
mutual
theorem owned_lw {n : Nat} : ∀ {c : PC}, c.owned = true → c.lw n
  | .v _, _ => by simp only [PC.lw]
  | .bld _ _ _ _, ho => by simp [PC.owned] at ho
  | .anyp, _ => by simp only [PC.lw]
  | .row _ _ _, ho => by simp [PC.owned] at ho
  | .sl t es, ho => by
    simp only [PC.owned, Bool.and_eq_true, Bool.or_eq_true, decide_eq_true_eq] at ho
    simp only [PC.lw]
    rcases ho.1 with h0 | h0
    · exact ownedLL_lw ho.2
    · rw [List.isEmpty_iff.1 h0]; simp only [lwLL]
theorem ownedL_lw {n : Nat} : ∀ {c : List PC}, ownedL c = true → lwL n c
  | [], _ => by simp only [lwL]
  | c :: cs, ho => by
    simp only [ownedL, Bool.and_eq_true] at ho
    simp only [lwL]
    exact ⟨owned_lw ho.1, ownedL_lw ho.2⟩
theorem ownedLL_lw {n : Nat} : ∀ {c : List (List PC)}, ownedLL c = true → lwLL n c
  | [], _ => by simp only [lwLL]
  | c :: cs, ho => by
    simp only [ownedLL, Bool.and_eq_true] at ho
    simp only [lwLL]
    exact ⟨ownedL_lw ho.1, ownedLL_lw ho.2⟩
end
/-- only so many boxes -/
def Cx.cutB (C : Cx) (n : Nat) : Cx := { C with nb := n }
theorem RpC.trim {C : Cx} {w : World} {n : Nat} {c : PC} {v : Value} (h : RpC C w c v) : c.lw n → RpC (C.cutB n) w c v := by
  induction h with
  | v x h => intro _; exact .v x h
  | bld p T t U v h cs fz ht hv hU => intro hl; exact .bld (C := C.cutB n) p T t U v hl cs fz ht hv hU
  | anyp a h => intro _; exact .anyp a h
  | row p l c h hl hc => intro hlw; exact .row (C := C.cutB n) p l c hlw hl hc
  | emp a c => intro _; exact .emp a c
  | nil => intro _; exact .nil
  | nilo t h2 ht hb => intro _; exact .nilo (C := C.cutB n) t h2 ht hb
  | rd es b o k c u hl hc hr h ih =>
    intro hf
    simp only [PC.lw] at hf
    exact .rd (C := C.cutB n) es b o k c u hl hc ⟨hr.pos, hr.wid, hr.cell, hr.fix⟩ fun i j e y he hy => ih i j e y he hy (lwL_get j y (lwLL_get i e hf he) hy)
  | own t es b u h2 ht hb hlen hl hc hr h ih =>
    intro hf
    simp only [PC.lw] at hf
    exact .own (C := C.cutB n) t es b u h2 ht hb hlen hl hc ⟨hr.pos, hr.wid, hr.cell, hr.fix⟩ fun i j e y he hy => ih i j e y he hy (lwL_get j y (lwLL_get i e hf he) hy)
theorem RpL.trim {C : Cx} {w : World} {n : Nat} {cs : List PC} {vs : List Value} (h : RpL C w cs vs) (hl : lwL n cs) : RpL (C.cutB n) w cs vs := ⟨h.1, fun j c y h1 h2 => (h.2 j c y h1 h2).trim (lwL_get j c hl h1)⟩
theorem RpV.trim {C : Cx} {w : World} {n : Nat} {x : PV} {v : Value} (h : RpV C w x v) : x.lw n → RpV (C.cutB n) w x v := by
  induction h with
  | d x v h => intro hl; exact .d x v (h.trim (by simpa only [PV.lw] using hl))
  | ag cs vs h => intro hl; exact .ag cs vs (h.trim (by simpa only [PV.lw] using hl))
  | tup xs vs hl _ ih => intro hf; simp only [PV.lw] at hf; exact .tup xs vs hl fun j x y h1 h2 => ih j x y h1 h2 (lwVs_get j x hf h1)
  | ref p o h => intro hl; simp only [PV.lw] at hl
  | pt cs b o u hc hF h => intro hl; simp only [PV.lw] at hl
  | fn f xs vs hl h ih => intro hl; simp only [PV.lw] at hl
  | raw v => intro _; exact .raw v
theorem Inv.trim {NG : Nat} {T : World → Prop} {C : Cx} {b0 rest : List (List PC)} {live : Nat → Prop} {w : World} (h : Inv NG T C (b0 ++ rest) live w) (hl : ∀ cs ∈ b0, lwL b0.length cs) : Inv NG T (C.cutB b0.length) b0 live w := by
  have hle : b0.length ≤ (b0 ++ rest).length := by simp
  refine ⟨rfl, fun p cs hp => ?_, fun p hp => h.boxF p (by omega), fun p hp => h.boxG p (by omega), fun p q hp hq => h.inj p q (by omega) (by omega), fun t ht => ?_, h.tinj, h.fin, h.ng, h.t⟩
  · have hlt : p < b0.length := by
      rcases Nat.lt_or_ge p b0.length with h' | h'
      · exact h'
      · rw [List.getElem?_eq_none h'] at hp; cases hp
    obtain ⟨vs, e, h1, h2⟩ := h.box p cs (by rw [List.getElem?_append_left hlt]; exact hp)
    exact ⟨vs, e, h1, h2.trim (hl cs (List.mem_of_getElem? hp))⟩
  · obtain ⟨a1, a2, a3⟩ := h.tok t ht
    refine ⟨a1, a2, a3.imp id ?_⟩
    rintro ⟨b, cur, e, c1, c2, c3, c4, c5, c6, c7, c8, c9, c10⟩
    exact ⟨b, cur, e, c1, c2, c3, c4, c5, c6, c7, c8, c9, fun p hp => c10 p (by omega)⟩
/-- **a contract without the called function's own boxes** -/
theorem FnG.trim {E : Env} {f : Nat} {args : List PV} {bx : List (List PC)} {nt : Nat} {live : List Nat} {R R' : PV → List (List PC) → Nat → List Nat → Prop} (h : FnG E f args bx nt live R)
    (hR : ∀ x b n l, R x b n l → ∃ b0 rest, b = b0 ++ rest ∧ b0.length = bx.length ∧ x.lw b0.length ∧ (∀ cs ∈ b0, lwL b0.length cs) ∧ R' x b0 n l) : FnG E f args bx nt live R' := by
  intro C w vs h1 h2 h3 h4 h5 h6
  refine (h C w vs h1 h2 h3 h4 h5 h6).mono ?_
  rintro e w' ⟨u, x, b, n, l, C', rfl, k1, k2, k3, k4, k5⟩
  obtain ⟨b0, rest, rfl, q1, q2, q3, q4⟩ := hR x b n l k1
  have hnb := h1.nb
  refine ⟨u, x, b0, n, l, C'.cutB b0.length, rfl, q4, k2.trim q3, k3, ?_, k5.trim q2⟩
  exact ⟨k4.os, k4.tape, k4.output, k4.size, k4.F, k4.fix, k4.block, ⟨by show C.nb ≤ b0.length; omega, k4.bx.2⟩, k4.newF, k4.newT, fun p hp hp2 => by omega, k4.tk⟩

/-- other boxes -/
def Cx.reb (C : Cx) (n : Nat) (f : Nat → Nat) : Cx := { C with nb := n, bx := f }
theorem RpC.reb {C : Cx} {w : World} {n : Nat} {f : Nat → Nat} {c : PC} {v : Value} (h : RpC C w c v) : c.lw 0 → RpC (C.reb n f) w c v := by
  induction h with
  | v x h => intro _; exact .v x h
  | bld p T t U v h cs fz ht hv hU => intro hl; exact absurd hl (Nat.not_lt_zero p)
  | anyp a h => intro _; exact .anyp a h
  | row p l c h hl hc => intro hlw; exact absurd hlw (Nat.not_lt_zero p)
  | emp a c => intro _; exact .emp a c
  | nil => intro _; exact .nil
  | nilo t h2 ht hb => intro _; exact .nilo (C := C.reb n f) t h2 ht hb
  | rd es b o k c u hl hc hr h ih =>
    intro hf
    simp only [PC.lw] at hf
    exact .rd (C := C.reb n f) es b o k c u hl hc ⟨hr.pos, hr.wid, hr.cell, hr.fix⟩ fun i j e y he hy => ih i j e y he hy (lwL_get j y (lwLL_get i e hf he) hy)
  | own t es b u h2 ht hb hlen hl hc hr h ih =>
    intro hf
    simp only [PC.lw] at hf
    exact .own (C := C.reb n f) t es b u h2 ht hb hlen hl hc ⟨hr.pos, hr.wid, hr.cell, hr.fix⟩ fun i j e y he hy => ih i j e y he hy (lwL_get j y (lwLL_get i e hf he) hy)
theorem RpL.reb {C : Cx} {w : World} {n : Nat} {f : Nat → Nat} {cs : List PC} {vs : List Value} (h : RpL C w cs vs) (hl : lwL 0 cs) : RpL (C.reb n f) w cs vs := ⟨h.1, fun j c y h1 h2 => (h.2 j c y h1 h2).reb (lwL_get j c hl h1)⟩
theorem RpV.reb {C : Cx} {w : World} {n : Nat} {f : Nat → Nat} {x : PV} {v : Value} (h : RpV C w x v) : x.lw 0 → RpV (C.reb n f) w x v := by
  induction h with
  | d x v h => intro hl; exact .d x v (h.reb (by simpa only [PV.lw] using hl))
  | ag cs vs h => intro hl; exact .ag cs vs (h.reb (by simpa only [PV.lw] using hl))
  | tup xs vs hl _ ih => intro hf; simp only [PV.lw] at hf; exact .tup xs vs hl fun j x y h1 h2 => ih j x y h1 h2 (lwVs_get j x hf h1)
  | ref p o h => intro hl; simp only [PV.lw] at hl
  | pt cs b o u hc hF h => intro hl; simp only [PV.lw] at hl
  | fn f xs vs hl h ih => intro hl; simp only [PV.lw] at hl
  | raw v => intro _; exact .raw v
/-- **a function that works on one box: in any state** -/
theorem FnG.lift1 {E : Env} {f : Nat} {args : List PV} {c : List PC} {nt : Nat} {live : List Nat} {R : PV → List PC → Nat → List Nat → Prop}
    (h : FnG E f (.ref 0 0 :: args) [c] nt live (fun x b n l => ∃ c' rest, b = c' :: rest ∧ x.lw 0 ∧ lwL 0 c' ∧ R x c' n l)) (ha : lwVs 0 args) (hc : lwL 0 c) {bx : List (List PC)} {p : Nat} (hp : bx[p]? = some c) :
    FnG E f (.ref p 0 :: args) bx nt live (fun x b n l => ∃ c', b = bx.set p c' ∧ R x c' n l) := by
  intro C w vs hI hnt hold hn2 hlen hv
  have hplt : p < bx.length := by
    rcases Nat.lt_or_ge p bx.length with h' | h'
    · exact h'
    · rw [List.getElem?_eq_none h'] at hp; cases hp
  have hnb := hI.nb
  have hI1 : Inv E.NG E.T (C.reb 1 fun _ => C.bx p) [c] (· ∈ live) w := by
    refine ⟨rfl, fun q cs hq => ?_, fun q _ => hI.boxF p hplt, fun q _ => hI.boxG p hplt, fun q r hq hr _ => ?_, fun t ht => ?_, hI.tinj, hI.fin, hI.ng, hI.t⟩
    · match q with
      | 0 =>
        simp only [List.getElem?_cons_zero, Option.some.injEq] at hq; subst hq
        obtain ⟨vs, e, h1, h2⟩ := hI.box p _ hp
        exact ⟨vs, e, h1, h2.reb hc⟩
      | q + 1 => simp at hq
    · simp only [List.length_singleton] at hq hr; omega
    · obtain ⟨a1, a2, a3⟩ := hI.tok t ht
      refine ⟨a1, a2, a3.imp id ?_⟩
      rintro ⟨b, cur, e, c1, c2, c3, c4, c5, c6, c7, c8, c9, c10⟩
      exact ⟨b, cur, e, c1, c2, c3, c4, c5, c6, c7, c8, c9, fun q _ => c10 p hplt⟩
  have hv1 : ∀ (j : Nat) (x : PV) (y : Value), (PV.ref 0 0 :: args)[j]? = some x → vs[j]? = some y → RpV (C.reb 1 fun _ => C.bx p) w x y := by
    intro j x y hx hy
    match j with
    | 0 =>
      simp only [List.getElem?_cons_zero, Option.some.injEq] at hx; subst hx
      have := hv 0 _ y rfl hy
      cases this
      exact RpV.ref (C := C.reb 1 fun _ => C.bx p) 0 0 (by show 0 < 1; omega)
    | j + 1 =>
      rw [List.getElem?_cons_succ] at hx
      exact (hv (j + 1) x y (by rw [List.getElem?_cons_succ]; exact hx) hy).reb (lwVs_get j x ha hx)
  refine (h (C.reb 1 fun _ => C.bx p) w vs hI1 hnt hold hn2 (by simpa using hlen) hv1).mono ?_
  rintro e w' ⟨u, x, b, n, l, C1, rfl, ⟨c', rest, rfl, k1, k2, k3⟩, I1, hn, E1, hx⟩
  have hb0 : C1.bx 0 = C.bx p := E1.bx.2 0 (by show 0 < 1; omega)
  have hle : CxLe C (C1.reb C.nb C.bx) := ⟨E1.F, Nat.le_refl _, fun _ _ => rfl, E1.tk.1, E1.tk.2⟩
  have hF : Fix C w w' := E1.fix
  have hnotok : ∀ q, q < bx.length → ∀ t, t ∈ live → C.tk t ≠ some (C.bx q) := by
    intro q hq t ht he
    obtain ⟨_, _, ⟨z, _⟩ | ⟨b, cur, e, c1, c2, c3, c4, c5, c6, c7, c8, c9, c10⟩⟩ := hI.tok t ht
    · rw [he] at z; cases z
    · rw [he] at c1; simp only [Option.some.injEq] at c1; subst c1; exact c10 q hq rfl
  have hold2 : ∀ t, (C.reb 1 fun _ => C.bx p).old t → t ∈ live := fun t ht => by
    have : C.old t := ht
    rw [hold] at this; exact this
  refine ⟨u, x, bx.set p c', n, l, C1.reb C.nb C.bx, rfl, ⟨c', rfl, k3⟩, ?_, hn, ?_, hx.reb k1⟩
  · refine ⟨by rw [List.length_set]; exact hnb, fun q cs hq => ?_, fun q hq o hFo => ?_, by rw [List.length_set]; exact hI.boxG, by rw [List.length_set]; exact hI.inj, fun t ht => ?_, I1.tinj, I1.fin, I1.ng, I1.t⟩
    · by_cases hqp : q = p
      · subst hqp
        rw [List.getElem?_set_self hplt] at hq
        simp only [Option.some.injEq] at hq; subst hq
        obtain ⟨vs, e, h1, h2⟩ := I1.box 0 c' rfl
        rw [hb0] at h1
        exact ⟨vs, e, h1, h2.reb k2⟩
      · rw [List.getElem?_set_ne (fun h => hqp h.symm)] at hq
        have hqlt : q < bx.length := by
          rcases Nat.lt_or_ge q bx.length with h' | h'
          · exact h'
          · rw [List.getElem?_eq_none h'] at hq; cases hq
        obtain ⟨vs, e, h1, h2⟩ := hI.box q cs hq
        refine ⟨vs, e, (E1.block (C.bx q) (heap_lt h1) (fun r _ he => hqp (hI.inj q p hqlt hplt he.symm)) (fun t ht he => hnotok q hqlt t (hold2 t ht) he)).trans h1, h2.frame hle hF⟩
    · rw [List.length_set] at hq
      rcases E1.newF (C.bx q) o hFo with h1 | h1 | ⟨s, h1, h2⟩
      · exact hI.boxF q hq o h1
      · have := hI.lt hq; omega
      · exact hnotok q hq s (hold2 s h1) h2
    · obtain ⟨a1, a2, a3⟩ := I1.tok t ht
      refine ⟨a1, a2, a3.imp id ?_⟩
      rintro ⟨b, cur, e, c1, c2, c3, c4, c5, c6, c7, c8, c9, c10⟩
      refine ⟨b, cur, e, c1, c2, c3, c4, c5, c6, c7, c8, c9, fun q hq he => ?_⟩
      rw [List.length_set] at hq
      have he : C.bx q = b := he
      rcases E1.newT t b ht c1 with h1 | ⟨s, h1, h2⟩
      · have := hI.lt hq; omega
      · exact hnotok q hq s (hold2 s h1) (by rw [he]; exact h2)
  · exact ⟨E1.os, E1.tape, E1.output, E1.size, E1.F, E1.fix, fun k hk hne ho => E1.block k hk (fun r _ => hne p (by omega)) ho, ⟨Nat.le_refl _, fun _ _ => rfl⟩, E1.newF, E1.newT, fun q hq hq2 => by rw [List.length_set] at hq2; omega, E1.tk⟩

/-! ### trees -/
theorem pt_alt {E : Env} {K : St → Prop} {m : MOpr} {a n : RT} {s : St} (h1 : po E [m] (pt E K a) s) (h2 : pt E K n s) : pt E K (.alt m a n) s := ⟨h1, h2⟩
theorem pt_node {E : Env} {K : St → Prop} {qs : List MOpr} {a : RT} {s : St} (h : po E qs (fun s => (a.isLeaf = true → K s) ∧ pt E K a s) s) : pt E K (.node qs a) s := h
theorem pt_leaf {E : Env} {K : St → Prop} {s : St} : pt E K .leaf s := trivial
theorem pt_last {E : Env} {K : St → Prop} {s : St} (h : K s) : (RT.leaf.isLeaf = true → K s) ∧ pt E K .leaf s := ⟨fun _ => h, trivial⟩
theorem pt_more {E : Env} {K : St → Prop} {m : MOpr} {a n : RT} {s : St} (h : pt E K (.alt m a n) s) : ((RT.alt m a n).isLeaf = true → K s) ∧ pt E K (.alt m a n) s := ⟨fun h => (Bool.noConfusion h : K s), h⟩
/-! ### steps -/
def MO.plain : MO → Bool
  | .mv _ | .load .. | .fld .. | .field .. | .ext .. | .nilc _ | .not _ | .build .. | .lens _ | .b2s _ | .litq .. | .mkfn .. | .pick .. => true
  | _ => false
section
variable {E : Env} {K : St → Prop} {tm : Nat → PV} {bx : List (List PC)} {nt d : Nat} {live : List Nat} {r : List MOpr} {g : Option (Nat × Bool)} {c : List X} {o : MO} {x y : X}
theorem po_s {v : PV} (_ho : o.plain = true) (hg : gd g tm = some true) (hq : qf (ev tm) bx o = some v) (h : po E r K ⟨up d v tm, bx, nt, live⟩) : po E (⟨some d, o, g, c⟩ :: r) K ⟨tm, bx, nt, live⟩ := po_q hg hq h
theorem po_no {e : Bool} (hg : gd g tm = some true) (hq : qf (ev tm) bx o = some (.d (.v (.bool e)))) (he : e = false) (h : po E r K ⟨up d (.d (.v (.bool false))) tm, bx, nt, live⟩) : po E (⟨some d, o, g, c⟩ :: r) K ⟨tm, bx, nt, live⟩ := by subst he; exact po_q hg hq h
theorem po_yes {e : Bool} (hg : gd g tm = some true) (hq : qf (ev tm) bx o = some (.d (.v (.bool e)))) (he : e = true) (h : po E r K ⟨up d (.d (.v (.bool true))) tm, bx, nt, live⟩) : po E (⟨some d, o, g, c⟩ :: r) K ⟨tm, bx, nt, live⟩ := by subst he; exact po_q hg hq h
/-- the length of a row -/
theorem po_len {t n : Nat} {es : List (List PC)} (hg : gd g tm = some true) (hx : ev tm x = .d (.sl t es)) (hn : es.length = n) (h : po E r K ⟨up d (.d (pI n)) tm, bx, nt, live⟩) : po E (⟨some d, .len x, g, c⟩ :: r) K ⟨tm, bx, nt, live⟩ := by
  refine po_q hg ?_ h
  simp only [qf, hx, hn]; rfl
theorem po_cv {k kk : IntKind} {a n : Int} (hg : gd g tm = some true) (hx : ev tm x = .d (.v (.int kk a))) (hn : k.wrap a = n) (h : po E r K ⟨up d (.d (.v (.int k n))) tm, bx, nt, live⟩) : po E (⟨some d, .conv k x, g, c⟩ :: r) K ⟨tm, bx, nt, live⟩ := by
  refine po_q hg ?_ h
  simp only [qf, hx, hn]
theorem po_mv {v : PV} (hg : gd g tm = some true) (hx : ev tm x = v) (h : po E r K ⟨up d v tm, bx, nt, live⟩) : po E (⟨some d, .mv x, g, c⟩ :: r) K ⟨tm, bx, nt, live⟩ := by
  subst hx; exact po_q hg rfl h
/-- the same, what can be computed left out -/
theorem pm {v : PV} (h : po E r K ⟨up d v tm, bx, nt, live⟩) (hg : gd g tm = some true := by exact rfl) (hx : ev tm x = v := by conv => lhs; whnf) : po E (⟨some d, .mv x, g, c⟩ :: r) K ⟨tm, bx, nt, live⟩ := po_mv hg hx h
theorem pq {v : PV} (h : po E r K ⟨up d v tm, bx, nt, live⟩) (ho : o.plain = true := by exact rfl) (hg : gd g tm = some true := by exact rfl) (hq : qf (ev tm) bx o = some v := by exact rfl) : po E (⟨some d, o, g, c⟩ :: r) K ⟨tm, bx, nt, live⟩ := po_s ho hg hq h
theorem px {cs : List PC} (h : po E r K ⟨up d (.ref bx.length 0) tm, bx ++ [cs], nt, live⟩) (hq : pcells (ev tm x) = some cs := by exact rfl) : po E (⟨some d, .box x, none, []⟩ :: r) K ⟨tm, bx, nt, live⟩ := po_box hq h
/-- a byte of a text -/
theorem po_ixs {l : List UInt8} {j : Int} {k : Nat} {b : UInt8} {kk : IntKind} (hg : gd g tm = some true) (hx : ev tm x = .d (pS l)) (hi : ev tm y = .d (.v (.int kk j))) (hj : j = k) (hb : l[k]? = some b) (h : po E r K ⟨up d (.d (.v (.int .u8 b.toNat))) tm, bx, nt, live⟩) : po E (⟨some d, .ixs x y, g, c⟩ :: r) K ⟨tm, bx, nt, live⟩ := by
  refine po_q hg ?_ h
  subst hj
  simp only [qf, hx, hi, pS]
  rw [if_pos (by omega)]
  simp [hb]
/-- a part of a text -/
theorem po_slcs {l rs : List UInt8} {lo hi : Option X} {a b : Nat} (hg : gd g tm = some true) (hx : ev tm x = .d (pS l)) (hlo : bound (ev tm) 0 lo = some a) (hhi : bound (ev tm) l.length hi = some b) (hle : a ≤ b ∧ b ≤ l.length) (hr : (l.drop a).take (b - a) = rs) (h : po E r K ⟨up d (.d (pS rs)) tm, bx, nt, live⟩) : po E (⟨some d, .slcs x lo hi, g, c⟩ :: r) K ⟨tm, bx, nt, live⟩ := by
  refine po_q hg ?_ h
  subst hr
  simp only [qf, hx, pS]
  rw [hlo, hhi]
  simp only
  rw [if_pos hle]
theorem bound_nat {e : X → PV} {dft k : Nat} {x : X} {kk : IntKind} {i : Int} (h : e x = .d (.v (.int kk i))) (hi : i = k) : bound e dft (some x) = some k := by
  subst hi
  simp only [bound, h]; rw [if_pos (by omega)]; simp
end
/-- a condition whose truth is a proposition's -/
theorem mw_cd {E : Env} {B : Base} {Q : Exit → St → Prop} {s : St} {x : X} {a b : M} {t : Bool} {p : Prop} [Decidable p] (ht : t = decide p) (hx : ev s.tm x = .d (.v (.bool t))) (h1 : p → t = true → mw E B a Q s) (h2 : ¬ p → t = false → mw E B b Q s) : mw E B (.cond x a b) Q s :=
  mw_cond hx (fun h => h1 (of_decide_eq_true (ht.symm.trans h)) h) (fun h => h2 (of_decide_eq_false (ht.symm.trans h)) h)
theorem mw_cd0 {E : Env} {B : Base} {Q : Exit → St → Prop} {s : St} {x : X} {a b : M} {p : Prop} [Decidable p] (hx : ev s.tm x = .d (.v (.bool (decide p)))) (h1 : p → mw E B a Q s) (h2 : ¬ p → mw E B b Q s) : mw E B (.cond x a b) Q s :=
  mw_cond hx (fun h => h1 (of_decide_eq_true h)) (fun h => h2 (of_decide_eq_false h))
end Go.Proofs.YthngfihpnfoppaaDoor

namespace Go.Proofs.YthngfihpnfoppaaDoor
open Go.RowKit

/-- a builder's cell in box p -/
def mvC (p : Nat) : PC → PC
  | .bld _ T t U => .bld p T t U
  | c => c
def okC0 : PC → Prop
  | .bld q _ _ _ => q = 0
  | c => c.lw 0
theorem mv_down {C : Cx} {w : World} {p : Nat} {x : PC} {v : Value} (h : RpC C w (mvC p x) v) (ho : okC0 x) : RpC (C.reb 1 fun _ => C.bx p) w x v := by
  cases x with
  | bld q T t U =>
    have ho : q = 0 := ho
    subst ho
    have h : RpC C w (.bld p T t U) v := h
    cases h with
    | bld _ _ _ _ _ h cs fz ht hv hU => exact .bld (C := C.reb 1 fun _ => C.bx p) 0 T t U v (by show 0 < 1; omega) cs fz ht hv hU
  | v x => exact RpC.reb (c := .v x) h ho
  | sl t es => exact RpC.reb (c := .sl t es) h ho
  | anyp => exact RpC.reb (c := .anyp) h ho
  | row q l k => exact RpC.reb (c := .row q l k) h ho
theorem mv_up {C : Cx} {w : World} {p n : Nat} {f : Nat → Nat} {x : PC} {v : Value} (h : RpC C w x v) (ho : okC0 x) (hf : f p = C.bx 0) (hp : p < n) : RpC (C.reb n f) w (mvC p x) v := by
  cases x with
  | bld q T t U =>
    have ho : q = 0 := ho
    subst ho
    cases h with
    | bld _ _ _ _ _ h cs fz ht hv hU => exact .bld (C := C.reb n f) p T t U v hp cs fz (by show w.heap[f p]? = _; rw [hf]; exact ht) (by show v = .pointer none ∨ v = .pointer (some ⟨f p, 0, none⟩); rw [hf]; exact hv) hU
  | v x => exact RpC.reb (c := .v x) h ho
  | sl t es => exact RpC.reb (c := .sl t es) h ho
  | anyp => exact RpC.reb (c := .anyp) h ho
  | row q l k => exact RpC.reb (c := .row q l k) h ho
theorem mvL_down {C : Cx} {w : World} {p : Nat} {cs : List PC} {vs : List Value} (h : RpL C w (cs.map (mvC p)) vs) (ho : ∀ y ∈ cs, okC0 y) : RpL (C.reb 1 fun _ => C.bx p) w cs vs :=
  ⟨by rw [h.1, List.length_map], fun j c y h1 h2 => mv_down (h.2 j (mvC p c) y (by rw [List.getElem?_map, h1]; rfl) h2) (ho c (List.mem_of_getElem? h1))⟩
theorem mvL_up {C : Cx} {w : World} {p n : Nat} {f : Nat → Nat} {cs : List PC} {vs : List Value} (h : RpL C w cs vs) (ho : ∀ y ∈ cs, okC0 y) (hf : f p = C.bx 0) (hp : p < n) : RpL (C.reb n f) w (cs.map (mvC p)) vs := by
  refine ⟨by rw [List.length_map]; exact h.1, fun j c y h1 h2 => ?_⟩
  rw [List.getElem?_map] at h1
  cases hj : cs[j]? with
  | none => rw [hj] at h1; cases h1
  | some c0 =>
    rw [hj] at h1; simp only [Option.map_some, Option.some.injEq] at h1; subst h1
    exact mv_up (h.2 j c0 y hj h2) (ho c0 (List.mem_of_getElem? hj)) hf hp
/-- **a function that works on one box, a builder perhaps: in any state** -/
theorem FnG.liftM {E : Env} {f : Nat} {args : List PV} {c : List PC} {nt : Nat} {live : List Nat} {R : PV → List PC → Nat → List Nat → Prop}
    (h : FnG E f (.ref 0 0 :: args) [c] nt live (fun x b n l => ∃ c' rest, b = c' :: rest ∧ x.lw 0 ∧ (∀ y ∈ c', okC0 y) ∧ R x c' n l)) (ha : lwVs 0 args) (hc : ∀ y ∈ c, okC0 y) {bx : List (List PC)} {p : Nat} (hp : bx[p]? = some (c.map (mvC p))) :
    FnG E f (.ref p 0 :: args) bx nt live (fun x b n l => ∃ c', b = bx.set p (c'.map (mvC p)) ∧ R x c' n l) := by
  intro C w vs hI hnt hold hn2 hlen hv
  have hplt : p < bx.length := by
    rcases Nat.lt_or_ge p bx.length with h' | h'
    · exact h'
    · rw [List.getElem?_eq_none h'] at hp; cases hp
  have hnb := hI.nb
  have hI1 : Inv E.NG E.T (C.reb 1 fun _ => C.bx p) [c] (· ∈ live) w := by
    refine ⟨rfl, fun q cs hq => ?_, fun q _ => hI.boxF p hplt, fun q _ => hI.boxG p hplt, fun q r hq hr _ => ?_, fun t ht => ?_, hI.tinj, hI.fin, hI.ng, hI.t⟩
    · match q with
      | 0 =>
        simp only [List.getElem?_cons_zero, Option.some.injEq] at hq; subst hq
        obtain ⟨vs, e, h1, h2⟩ := hI.box p _ hp
        exact ⟨vs, e, h1, mvL_down h2 hc⟩
      | q + 1 => simp at hq
    · simp only [List.length_singleton] at hq hr; omega
    · obtain ⟨a1, a2, a3⟩ := hI.tok t ht
      refine ⟨a1, a2, a3.imp id ?_⟩
      rintro ⟨b, cur, e, c1, c2, c3, c4, c5, c6, c7, c8, c9, c10⟩
      exact ⟨b, cur, e, c1, c2, c3, c4, c5, c6, c7, c8, c9, fun q _ => c10 p hplt⟩
  have hv1 : ∀ (j : Nat) (x : PV) (y : Value), (PV.ref 0 0 :: args)[j]? = some x → vs[j]? = some y → RpV (C.reb 1 fun _ => C.bx p) w x y := by
    intro j x y hx hy
    match j with
    | 0 =>
      simp only [List.getElem?_cons_zero, Option.some.injEq] at hx; subst hx
      have := hv 0 _ y rfl hy
      cases this
      exact RpV.ref (C := C.reb 1 fun _ => C.bx p) 0 0 (by show 0 < 1; omega)
    | j + 1 =>
      rw [List.getElem?_cons_succ] at hx
      exact (hv (j + 1) x y (by rw [List.getElem?_cons_succ]; exact hx) hy).reb (lwVs_get j x ha hx)
  refine (h (C.reb 1 fun _ => C.bx p) w vs hI1 hnt hold hn2 (by simpa using hlen) hv1).mono ?_
  rintro e w' ⟨u, x, b, n, l, C1, rfl, ⟨c', rest, rfl, k1, k2, k3⟩, I1, hn, E1, hx⟩
  have hb0 : C1.bx 0 = C.bx p := E1.bx.2 0 (by show 0 < 1; omega)
  have hle : CxLe C (C1.reb C.nb C.bx) := ⟨E1.F, Nat.le_refl _, fun _ _ => rfl, E1.tk.1, E1.tk.2⟩
  have hF : Fix C w w' := E1.fix
  have hnotok : ∀ q, q < bx.length → ∀ t, t ∈ live → C.tk t ≠ some (C.bx q) := by
    intro q hq t ht he
    obtain ⟨_, _, ⟨z, _⟩ | ⟨b, cur, e, c1, c2, c3, c4, c5, c6, c7, c8, c9, c10⟩⟩ := hI.tok t ht
    · rw [he] at z; cases z
    · rw [he] at c1; simp only [Option.some.injEq] at c1; subst c1; exact c10 q hq rfl
  have hold2 : ∀ t, (C.reb 1 fun _ => C.bx p).old t → t ∈ live := fun t ht => by
    have : C.old t := ht
    rw [hold] at this; exact this
  refine ⟨u, x, bx.set p (c'.map (mvC p)), n, l, C1.reb C.nb C.bx, rfl, ⟨c', rfl, k3⟩, ?_, hn, ?_, hx.reb k1⟩
  · refine ⟨by rw [List.length_set]; exact hnb, fun q cs hq => ?_, fun q hq o hFo => ?_, by rw [List.length_set]; exact hI.boxG, by rw [List.length_set]; exact hI.inj, fun t ht => ?_, I1.tinj, I1.fin, I1.ng, I1.t⟩
    · by_cases hqp : q = p
      · subst hqp
        rw [List.getElem?_set_self hplt] at hq
        simp only [Option.some.injEq] at hq; subst hq
        obtain ⟨vs, e, h1, h2⟩ := I1.box 0 c' rfl
        rw [hb0] at h1
        exact ⟨vs, e, h1, mvL_up h2 k2 hb0.symm (by rw [hnb]; exact hplt)⟩
      · rw [List.getElem?_set_ne (fun h => hqp h.symm)] at hq
        have hqlt : q < bx.length := by
          rcases Nat.lt_or_ge q bx.length with h' | h'
          · exact h'
          · rw [List.getElem?_eq_none h'] at hq; cases hq
        obtain ⟨vs, e, h1, h2⟩ := hI.box q cs hq
        refine ⟨vs, e, (E1.block (C.bx q) (heap_lt h1) (fun r _ he => hqp (hI.inj q p hqlt hplt he.symm)) (fun t ht he => hnotok q hqlt t (hold2 t ht) he)).trans h1, h2.frame hle hF⟩
    · rw [List.length_set] at hq
      rcases E1.newF (C.bx q) o hFo with h1 | h1 | ⟨s, h1, h2⟩
      · exact hI.boxF q hq o h1
      · have := hI.lt hq; omega
      · exact hnotok q hq s (hold2 s h1) h2
    · obtain ⟨a1, a2, a3⟩ := I1.tok t ht
      refine ⟨a1, a2, a3.imp id ?_⟩
      rintro ⟨b, cur, e, c1, c2, c3, c4, c5, c6, c7, c8, c9, c10⟩
      refine ⟨b, cur, e, c1, c2, c3, c4, c5, c6, c7, c8, c9, fun q hq he => ?_⟩
      rw [List.length_set] at hq
      have he : C.bx q = b := he
      rcases E1.newT t b ht c1 with h1 | ⟨s, h1, h2⟩
      · have := hI.lt hq; omega
      · exact hnotok q hq s (hold2 s h1) (by rw [he]; exact h2)
  · exact ⟨E1.os, E1.tape, E1.output, E1.size, E1.F, E1.fix, fun k hk hne ho => E1.block k hk (fun r _ => hne p (by omega)) ho, ⟨Nat.le_refl _, fun _ _ => rfl⟩, E1.newF, E1.newT, fun q hq hq2 => by rw [List.length_set] at hq2; omega, E1.tk⟩

/-- **a function that works on no box: in any state** -/
theorem FnG.lift0 {E : Env} {f : Nat} {args : List PV} {nt : Nat} {live : List Nat} {R : PV → Nat → List Nat → Prop}
    (h : FnG E f args [] nt live (fun x _ n l => x.lw 0 ∧ R x n l)) (ha : lwVs 0 args) {bx : List (List PC)} :
    FnG E f args bx nt live (fun x b n l => b = bx ∧ R x n l) := by
  intro C w vs hI hnt hold hn2 hlen hv
  have hnb := hI.nb
  have hI1 : Inv E.NG E.T (C.reb 0 fun _ => 0) [] (· ∈ live) w := by
    refine ⟨rfl, fun q cs hq => by simp at hq, fun q hq => by simp at hq, fun q hq => by simp at hq, fun q r hq => by simp at hq, fun t ht => ?_, hI.tinj, hI.fin, hI.ng, hI.t⟩
    obtain ⟨a1, a2, a3⟩ := hI.tok t ht
    refine ⟨a1, a2, a3.imp id ?_⟩
    rintro ⟨b, cur, e, c1, c2, c3, c4, c5, c6, c7, c8, c9, c10⟩
    exact ⟨b, cur, e, c1, c2, c3, c4, c5, c6, c7, c8, c9, fun q hq => by simp at hq⟩
  have hv1 : ∀ (j : Nat) (x : PV) (y : Value), args[j]? = some x → vs[j]? = some y → RpV (C.reb 0 fun _ => 0) w x y := fun j x y hx hy => (hv j x y hx hy).reb (lwVs_get j x ha hx)
  refine (h (C.reb 0 fun _ => 0) w vs hI1 hnt hold hn2 hlen hv1).mono ?_
  rintro e w' ⟨u, x, b, n, l, C1, rfl, ⟨k1, k3⟩, I1, hn, E1, hx⟩
  have hle : CxLe C (C1.reb C.nb C.bx) := ⟨E1.F, Nat.le_refl _, fun _ _ => rfl, E1.tk.1, E1.tk.2⟩
  have hF : Fix C w w' := E1.fix
  have hnotok : ∀ q, q < bx.length → ∀ t, t ∈ live → C.tk t ≠ some (C.bx q) := by
    intro q hq t ht he
    obtain ⟨_, _, ⟨z, _⟩ | ⟨b, cur, e, c1, c2, c3, c4, c5, c6, c7, c8, c9, c10⟩⟩ := hI.tok t ht
    · rw [he] at z; cases z
    · rw [he] at c1; simp only [Option.some.injEq] at c1; subst c1; exact c10 q hq rfl
  have hold2 : ∀ t, (C.reb 0 fun _ => 0).old t → t ∈ live := fun t ht => by
    have : C.old t := ht
    rw [hold] at this; exact this
  refine ⟨u, x, bx, n, l, C1.reb C.nb C.bx, rfl, ⟨rfl, k3⟩, ?_, hn, ?_, hx.reb k1⟩
  · refine ⟨hnb, fun q cs hq => ?_, fun q hq o hFo => ?_, hI.boxG, hI.inj, fun t ht => ?_, I1.tinj, I1.fin, I1.ng, I1.t⟩
    · have hqlt : q < bx.length := by
        rcases Nat.lt_or_ge q bx.length with h' | h'
        · exact h'
        · rw [List.getElem?_eq_none h'] at hq; cases hq
      obtain ⟨vs, e, h1, h2⟩ := hI.box q cs hq
      exact ⟨vs, e, (E1.block (C.bx q) (heap_lt h1) (fun r hr => by simp [Cx.reb] at hr) (fun t ht he => hnotok q hqlt t (hold2 t ht) he)).trans h1, h2.frame hle hF⟩
    · rcases E1.newF (C.bx q) o hFo with h1 | h1 | ⟨s, h1, h2⟩
      · exact hI.boxF q hq o h1
      · have := hI.lt hq; omega
      · exact hnotok q hq s (hold2 s h1) h2
    · obtain ⟨a1, a2, a3⟩ := I1.tok t ht
      refine ⟨a1, a2, a3.imp id ?_⟩
      rintro ⟨b, cur, e, c1, c2, c3, c4, c5, c6, c7, c8, c9, c10⟩
      refine ⟨b, cur, e, c1, c2, c3, c4, c5, c6, c7, c8, c9, fun q hq he => ?_⟩
      have he : C.bx q = b := he
      rcases E1.newT t b ht c1 with h1 | ⟨s, h1, h2⟩
      · have := hI.lt hq; omega
      · exact hnotok q hq s (hold2 s h1) (by rw [he]; exact h2)
  · exact ⟨E1.os, E1.tape, E1.output, E1.size, E1.F, E1.fix, fun k hk hne ho => E1.block k hk (fun r hr => by simp [Cx.reb] at hr) ho, ⟨Nat.le_refl _, fun _ _ => rfl⟩, E1.newF, E1.newT, fun q hq hq2 => by omega, E1.tk⟩


section
variable {E : Env} {d : Nat} {r : List MOpr} {K : St → Prop} {tm : Nat → PV} {bx : List (List PC)} {nt : Nat} {live : List Nat}
theorem gl_last {α : Type} (l : List α) (x : α) : (l ++ [x])[l.length]? = some x := by rw [List.getElem?_append_right (Nat.le_refl _), Nat.sub_self]; rfl
/-- a new variable -/
theorem po_nw {n : Nat} {z : List Value} {x : X} {cs : List PC} {c : List X} (hx : pcells (ev (up d (.ref bx.length 0) tm) x) = some cs) (hn : cs.length = n) (hz : z.length = n) (hc : c.all (apartX (ev (up d (.ref bx.length 0) tm)) (.t d)) = true)
    (h : po E r K ⟨up d (.ref bx.length 0) tm, bx ++ [cs], nt, live⟩) : po E (⟨some d, .zero z, none, []⟩ :: ⟨none, .store n (.t d) x, none, c⟩ :: r) K ⟨tm, bx, nt, live⟩ := by
  refine po_zero ?_
  have hz0 : (bx ++ [z.map ofC])[bx.length]? = some (z.map ofC) := gl_last _ _
  have ha : ev (up d (.ref bx.length 0) tm) (.t d) = .ref bx.length 0 := by
    show up d (.ref bx.length 0) tm d = _
    rw [← up_eq]; exact if_pos rfl
  refine po_store ha hx hz0 ⟨hn, by rw [List.length_map]; omega⟩ hc ?_
  have e1 : spl (z.map ofC) 0 cs = cs := by
    unfold spl
    rw [List.take_zero, List.nil_append, List.drop_of_length_le (by rw [List.length_map]; omega), List.append_nil]
  have e2 : (bx ++ [z.map ofC]).set bx.length cs = bx ++ [cs] := by
    rw [List.set_append_right _ _ (Nat.le_refl _), Nat.sub_self]; rfl
  rw [e1, e2]; exact h
theorem po_ldx {ag : Bool} {n p o : Nat} {x : X} {c : List X} {g : Option (Nat × Bool)} {cs : List PC} {v : PV} (hg : gd g tm = some true) (hx : ev tm x = .ref p o) (hb : bx[p]? = some cs) (hn : o + n ≤ cs.length) (hv : ldv ag ((cs.drop o).take n) = some v)
    (h : po E r K ⟨up d v tm, bx, nt, live⟩) : po E (⟨some d, .load ag n x, g, c⟩ :: r) K ⟨tm, bx, nt, live⟩ := by
  refine po_q hg ?_ h
  simp only [qf, hx, hb, if_pos hn, hv]
/-- a whole box and a temporary as results -/
theorem ress_bt {n t p t2 : Nat} {cs : List PC} {v : PV} (ht : tm t = .ref p 0) (hb : bx[p]? = some cs) (hn : cs.length = n) (h2 : tm t2 = v) : ressM ⟨tm, bx, nt, live⟩ [.cell true n t, .tm t2] = some [.ag cs, v] := by
  simp only [ressM, resM, ht, hb, Nat.zero_add, List.drop_zero, ldv, hn, Nat.le_refl, if_true, h2]
  rw [← hn, List.take_length]
end
end Go.Proofs.YthngfihpnfoppaaDoor

namespace Go.Proofs.YthngfihpnfoppaaDoor
open Go.RowKit

def okB : PC → Prop
  | .row _ _ _ => True
  | c => c.lw 0
theorem okB_of {c : PC} (h : c.lw 0) : okB c := by
  cases c with
  | row p l c => trivial
  | _ => exact h
open Classical in
/-- boxes shifted; what names boxes deeper is forgotten -/
noncomputable def PC.shB (k : Nat) (c : PC) : PC := if okB c then (match c with | .row p l c => .row (p + k) l c | c => c) else .anyp
theorem shB_row (k p l c : Nat) : PC.shB k (.row p l c) = .row (p + k) l c := if_pos trivial
theorem shB_id {k : Nat} {c : PC} (h : c.lw 0) : c.shB k = c := by
  unfold PC.shB
  rw [if_pos (okB_of h)]
  cases c with
  | row p l c => exact absurd h (Nat.not_lt_zero p)
  | _ => rfl
theorem shB_idL {k : Nat} : ∀ {cs : List PC}, lwL 0 cs → cs.map (PC.shB k) = cs
  | [], _ => rfl
  | c :: cs, h => by rw [List.map_cons, shB_id h.1, shB_idL h.2]
mutual
noncomputable def PV.shB (k : Nat) : PV → PV
  | .d c => .d (c.shB k)
  | .ag cs => .ag (cs.map (PC.shB k))
  | .tup vs => .tup (shBs k vs)
  | .ref p o => .ref (p + k) o
  | .pt cs => .pt (cs.map (PC.shB k))
  | .fn f vs => .fn f (shBs k vs)
  | .raw v => .raw v
noncomputable def shBs (k : Nat) : List PV → List PV
  | [] => []
  | v :: vs => PV.shB k v :: shBs k vs
end
theorem shBs_map (k : Nat) : ∀ vs : List PV, shBs k vs = vs.map (PV.shB k)
  | [] => rfl
  | v :: vs => by simp only [shBs, List.map_cons, shBs_map k vs]
section
variable {C : Cx} {w : World} {k n : Nat} {f : Nat → Nat}
theorem rp_shB {c : PC} {v : Value} (h : RpC C w c v) (hf : ∀ p, p < C.nb → p + k < n ∧ f (p + k) = C.bx p) : RpC (C.reb n f) w (c.shB k) v := by
  unfold PC.shB
  by_cases ho : okB c
  · rw [if_pos ho]
    cases c with
    | row p l c => cases h with
      | row _ _ _ h1 h2 h3 =>
        obtain ⟨a1, a2⟩ := hf p h1
        have := RpC.row (C := C.reb n f) (w := w) (p + k) l c a1 h2 h3
        rw [show (C.reb n f).bx (p + k) = C.bx p from a2] at this; exact this
    | v x => exact RpC.reb (c := .v x) h ho
    | sl t es => exact RpC.reb (c := .sl t es) h ho
    | anyp => exact RpC.reb (c := .anyp) h ho
    | bld p T t U => exact absurd ho (Nat.not_lt_zero p)
  · rw [if_neg ho]; exact .anyp v h.one
theorem rpL_shB {cs : List PC} {vs : List Value} (h : RpL C w cs vs) (hf : ∀ p, p < C.nb → p + k < n ∧ f (p + k) = C.bx p) : RpL (C.reb n f) w (cs.map (PC.shB k)) vs := by
  refine ⟨by rw [List.length_map]; exact h.1, fun j c y h1 h2 => ?_⟩
  rw [List.getElem?_map] at h1
  cases hj : cs[j]? with
  | none => rw [hj] at h1; cases h1
  | some c0 =>
    rw [hj] at h1; simp only [Option.map_some, Option.some.injEq] at h1; subst h1
    exact rp_shB (h.2 j c0 y hj h2) hf
theorem rpV_shB {x : PV} {v : Value} (h : RpV C w x v) (hf : ∀ p, p < C.nb → p + k < n ∧ f (p + k) = C.bx p) : RpV (C.reb n f) w (x.shB k) v := by
  have conv : ∀ (xs : List PV) (vs : List Value), (∀ (j : Nat) (x : PV) (y : Value), xs[j]? = some x → vs[j]? = some y → RpV (C.reb n f) w (x.shB k) y) → ∀ (j : Nat) (x : PV) (y : Value), (shBs k xs)[j]? = some x → vs[j]? = some y → RpV (C.reb n f) w x y := by
    intro xs vs ih j x y h1 h2
    rw [shBs_map, List.getElem?_map] at h1
    cases hj : xs[j]? with
    | none => rw [hj] at h1; cases h1
    | some c0 =>
      rw [hj] at h1; simp only [Option.map_some, Option.some.injEq] at h1; subst h1
      exact ih j c0 y hj h2
  induction h with
  | d x v h => exact .d _ v (rp_shB h hf)
  | ag cs vs h => exact .ag _ vs (rpL_shB h hf)
  | tup xs vs hl _ ih => exact .tup _ vs (by rw [shBs_map, List.length_map]; exact hl) (conv xs vs ih)
  | raw v => exact .raw v
  | ref p o h =>
    obtain ⟨a1, a2⟩ := hf p h
    have := RpV.ref (C := C.reb n f) (w := w) (p + k) o a1
    rw [show (C.reb n f).bx (p + k) = C.bx p from a2] at this; exact this
  | pt cs b o u hc hF h =>
    refine .pt _ b o u (fun j hj => hc j (by simpa using hj)) (fun j hj => hF j (by simpa using hj)) fun j c hj => ?_
    rw [List.getElem?_map] at hj
    cases hh : cs[j]? with
    | none => rw [hh] at hj; cases hj
    | some c0 =>
      rw [hh] at hj; simp only [Option.map_some, Option.some.injEq] at hj; subst hj
      exact rp_shB (h j c0 hh) hf
  | fn f xs vs hl h ih => exact .fn f _ vs (by rw [shBs_map, List.length_map]; exact hl) (conv xs vs ih)
end
/-- **a function that makes boxes of its own: in any state** -/
theorem FnG.liftR {E : Env} {f : Nat} {args : List PV} {nt : Nat} {live : List Nat} {R : PV → List (List PC) → Nat → List Nat → Prop}
    (h : FnG E f args [] nt live R) (ha : lwVs 0 args) {bx : List (List PC)} :
    FnG E f args bx nt live (fun x b n l => ∃ x0 b0, x = x0.shB bx.length ∧ b = bx ++ b0.map (·.map (PC.shB bx.length)) ∧ R x0 b0 n l) := by
  intro C w vs hI hnt hold hn2 hlen hv
  have hnb := hI.nb
  have hI1 : Inv E.NG E.T (C.reb 0 fun _ => 0) [] (· ∈ live) w := by
    refine ⟨rfl, fun q cs hq => by simp at hq, fun q hq => by simp at hq, fun q hq => by simp at hq, fun q r hq => by simp at hq, fun t ht => ?_, hI.tinj, hI.fin, hI.ng, hI.t⟩
    obtain ⟨a1, a2, a3⟩ := hI.tok t ht
    refine ⟨a1, a2, a3.imp id ?_⟩
    rintro ⟨b, cur, e, c1, c2, c3, c4, c5, c6, c7, c8, c9, c10⟩
    exact ⟨b, cur, e, c1, c2, c3, c4, c5, c6, c7, c8, c9, fun q hq => by simp at hq⟩
  have hv1 : ∀ (j : Nat) (x : PV) (y : Value), args[j]? = some x → vs[j]? = some y → RpV (C.reb 0 fun _ => 0) w x y := fun j x y hx hy => (hv j x y hx hy).reb (lwVs_get j x ha hx)
  refine (h (C.reb 0 fun _ => 0) w vs hI1 hnt hold hn2 hlen hv1).mono ?_
  rintro e w' ⟨u, x, b, n, l, C1, rfl, k3, I1, hn, E1, hx⟩
  have hn1 := I1.nb
  obtain ⟨g, hg⟩ : ∃ g : Nat → Nat, g = fun p => if p < bx.length then C.bx p else C1.bx (p - bx.length) := ⟨_, rfl⟩
  have g0 : ∀ p, p < bx.length → g p = C.bx p := fun p hp => by rw [hg]; exact if_pos hp
  have g1 : ∀ p, g (p + bx.length) = C1.bx p := fun p => by rw [hg]; show (if p + bx.length < bx.length then _ else _) = _; rw [if_neg (by omega), Nat.add_sub_cancel]
  have hle : CxLe C (C1.reb (bx.length + b.length) g) := ⟨E1.F, by show C.nb ≤ bx.length + b.length; omega, fun p hp => g0 p (by omega), E1.tk.1, E1.tk.2⟩
  have hF : Fix C w w' := E1.fix
  have hsh : ∀ p, p < C1.nb → p + bx.length < bx.length + b.length ∧ g (p + bx.length) = C1.bx p := fun p hp => ⟨by omega, g1 p⟩
  have hnotok : ∀ q, q < bx.length → ∀ t, t ∈ live → C.tk t ≠ some (C.bx q) := by
    intro q hq t ht he
    obtain ⟨_, _, ⟨z, _⟩ | ⟨b, cur, e, c1, c2, c3, c4, c5, c6, c7, c8, c9, c10⟩⟩ := hI.tok t ht
    · rw [he] at z; cases z
    · rw [he] at c1; simp only [Option.some.injEq] at c1; subst c1; exact c10 q hq rfl
  have hold2 : ∀ t, (C.reb 0 fun _ => 0).old t → t ∈ live := fun t ht => by
    have : C.old t := ht
    rw [hold] at this; exact this
  have hnewB : ∀ p, p < b.length → w.heap.size ≤ C1.bx p := fun p hp => E1.newB p (Nat.zero_le _) hp
  have split : ∀ q, q < (bx ++ b.map (·.map (PC.shB bx.length))).length → q < bx.length ∨ ∃ p, p < b.length ∧ q = p + bx.length := fun q hq => by
    rw [List.length_append, List.length_map] at hq
    rcases Nat.lt_or_ge q bx.length with h' | h'
    · exact .inl h'
    · exact .inr ⟨q - bx.length, by omega, by omega⟩
  refine ⟨u, x.shB bx.length, bx ++ b.map (·.map (PC.shB bx.length)), n, l, C1.reb (bx.length + b.length) g, rfl, ⟨x, b, rfl, rfl, k3⟩, ?_, hn, ?_, rpV_shB hx hsh⟩
  · refine ⟨by rw [List.length_append, List.length_map]; rfl, fun q cs hq => ?_, fun q hq o hFo => ?_, fun q hq => ?_, fun p q hp hq he => ?_, fun t ht => ?_, I1.tinj, I1.fin, I1.ng, I1.t⟩
    · have hlt : q < (bx ++ b.map (·.map (PC.shB bx.length))).length := by
        rcases Nat.lt_or_ge q (bx ++ b.map (·.map (PC.shB bx.length))).length with h' | h'
        · exact h'
        · rw [List.getElem?_eq_none h'] at hq; cases hq
      rcases split q hlt with hql | ⟨p, hp, rfl⟩
      · rw [List.getElem?_append_left hql] at hq
        obtain ⟨vs, e, h1, h2⟩ := hI.box q cs hq
        refine ⟨vs, e, ?_, h2.frame hle hF⟩
        show w'.heap[g q]? = _
        rw [g0 q hql]
        exact (E1.block (C.bx q) (heap_lt h1) (fun r hr => by simp [Cx.reb] at hr) (fun t ht he => hnotok q hql t (hold2 t ht) he)).trans h1
      · rw [List.getElem?_append_right (by omega), Nat.add_sub_cancel, List.getElem?_map] at hq
        cases hb : b[p]? with
        | none => rw [hb] at hq; cases hq
        | some c0 =>
          rw [hb] at hq; simp only [Option.map_some, Option.some.injEq] at hq; subst hq
          obtain ⟨vs, e, h1, h2⟩ := I1.box p c0 hb
          refine ⟨vs, e, ?_, rpL_shB h2 hsh⟩
          show w'.heap[g (p + bx.length)]? = _
          rw [g1]; exact h1
    · have hFo : C1.F (g q) o := hFo
      rcases split q hq with hql | ⟨p, hp, rfl⟩
      · rw [g0 q hql] at hFo
        rcases E1.newF (C.bx q) o hFo with h1 | h1 | ⟨s, h1, h2⟩
        · exact hI.boxF q hql o h1
        · have := hI.lt hql; omega
        · exact hnotok q hql s (hold2 s h1) h2
      · rw [g1] at hFo; exact I1.boxF p hp o hFo
    · show E.NG ≤ g q
      rcases split q hq with hql | ⟨p, hp, rfl⟩
      · rw [g0 q hql]; exact hI.boxG q hql
      · rw [g1]; exact I1.boxG p hp
    · have he : g p = g q := he
      rcases split p hp with hpl | ⟨p', hp', rfl⟩ <;> rcases split q hq with hql | ⟨q', hq', rfl⟩
      · rw [g0 p hpl, g0 q hql] at he; exact hI.inj p q hpl hql he
      · rw [g0 p hpl, g1] at he; have := hI.lt hpl; have := hnewB q' hq'; omega
      · rw [g0 q hql, g1] at he; have := hI.lt hql; have := hnewB p' hp'; omega
      · rw [g1, g1] at he; rw [I1.inj p' q' hp' hq' he]
    · obtain ⟨a1, a2, a3⟩ := I1.tok t ht
      refine ⟨a1, a2, a3.imp id ?_⟩
      rintro ⟨b', cur, e, c1, c2, c3, c4, c5, c6, c7, c8, c9, c10⟩
      refine ⟨b', cur, e, c1, c2, c3, c4, c5, c6, c7, c8, c9, fun q hq he => ?_⟩
      have he : g q = b' := he
      rcases split q hq with hql | ⟨p, hp, rfl⟩
      · rw [g0 q hql] at he
        rcases E1.newT t b' ht c1 with h1 | ⟨s, h1, h2⟩
        · have := hI.lt hql; omega
        · exact hnotok q hql s (hold2 s h1) (by rw [he]; exact h2)
      · rw [g1] at he; exact c10 p hp he
  · refine ⟨E1.os, E1.tape, E1.output, E1.size, E1.F, E1.fix, fun k hk hne ho => E1.block k hk (fun r hr => by simp [Cx.reb] at hr) ho, ⟨hle.nb, hle.bx⟩, E1.newF, E1.newT, fun q hq hq2 => ?_, E1.tk⟩
    rcases split q hq2 with hql | ⟨p, hp, rfl⟩
    · omega
    · show w.heap.size ≤ g (p + bx.length)
      rw [g1]; exact hnewB p hp

/-- a slice that is empty, or lies in a box from lo on: its cells -/
def RwAt (n lo : Nat) (live : List Nat) (c : PC) (bx : List (List PC)) (cells : List PC) : Prop :=
  lo ≤ bx.length ∧ ((∃ t, c = .sl t [] ∧ (t = 1 ∨ t ∈ live) ∧ cells = []) ∨ ∃ p len cap z, c = .row p len cap ∧ lo ≤ p ∧ bx[p]? = some z ∧ z.length = n * cap ∧ len ≤ cap ∧ cells = z.take (n * len))
theorem RwAt.row {n lo : Nat} {live : List Nat} {c : PC} {bx : List (List PC)} {cells : List PC} (h : RwAt n lo live c bx cells) (hne : cells ≠ []) : ∃ p len cap z, c = .row p len cap ∧ lo ≤ p ∧ bx[p]? = some z ∧ z.length = n * cap ∧ len ≤ cap ∧ cells = z.take (n * len) ∧ cells.length = n * len := by
  rcases h.2 with ⟨t, _, _, h⟩ | ⟨p, len, cap, z, h1, h2, h3, h4, h5, h6⟩
  · exact absurd h hne
  · exact ⟨p, len, cap, z, h1, h2, h3, h4, h5, h6, by rw [h6, List.length_take, h4]; exact Nat.min_eq_left (Nat.mul_le_mul_left _ h5)⟩
theorem RwAt.mono {n lo : Nat} {live live' : List Nat} {c : PC} {bx : List (List PC)} {cells : List PC} (h : RwAt n lo live c bx cells) (hl : ∀ t ∈ live, t ∈ live') : RwAt n lo live' c bx cells :=
  ⟨h.1, h.2.imp (fun ⟨t, a, b, c⟩ => ⟨t, a, b.imp id (hl t), c⟩) id⟩
theorem RwAt.cong {n lo : Nat} {live : List Nat} {c : PC} {bx bx' : List (List PC)} {cells : List PC} (h : RwAt n lo live c bx cells) (h1 : bx.length ≤ bx'.length) (hb : ∀ q, lo ≤ q → q < bx.length → bx'[q]? = bx[q]?) : RwAt n lo live c bx' cells :=
  ⟨Nat.le_trans h.1 h1, h.2.imp id fun ⟨p, len, cap, z, a1, a2, a3, a4⟩ => ⟨p, len, cap, z, a1, a2, by
    rw [hb p a2 (by
      rcases Nat.lt_or_ge p bx.length with h' | h'
      · exact h'
      · rw [List.getElem?_eq_none h'] at a3; cases a3)]; exact a3, a4⟩⟩
theorem RwAt.shB {n lo k : Nat} {live : List Nat} {c : PC} {b bx : List (List PC)} {cells : List PC} (h : RwAt n lo live c b cells) (hl : lwL 0 cells) (hk : bx.length = k) : RwAt n (lo + k) live (c.shB k) (bx ++ b.map (·.map (PC.shB k))) cells := by
  refine ⟨by rw [List.length_append, List.length_map]; have := h.1; omega, ?_⟩
  rcases h.2 with ⟨t, rfl, h1, h2⟩ | ⟨p, len, cap, z, rfl, h2, h3, h4, h5, h6⟩
  · exact .inl ⟨t, shB_id (by show lwLL 0 []; trivial), h1, h2⟩
  · refine .inr ⟨p + k, len, cap, z.map (PC.shB k), shB_row _ _ _ _, by omega, ?_, by rw [List.length_map]; exact h4, h5, ?_⟩
    · rw [List.getElem?_append_right (by omega), hk, Nat.add_sub_cancel, List.getElem?_map, h3]; rfl
    · rw [← List.map_take, ← h6, shB_idL hl]
theorem RwAt.app {n lo len cap p p' cap' : Nat} {live : List Nat} {z : List PC} {bx bx' : List (List PC)} {ds : List (List PC)} (hp : lo ≤ p) (hlo : lo ≤ bx.length) (hz : bx[p]? = some z ∧ z.length = n * cap ∧ len ≤ cap ∨ p = bx.length ∧ z = [] ∧ len = 0 ∧ cap = 0) (hds : ∀ e ∈ ds, e.length = n) (hd0 : ds ≠ [])
    (h : AppB n len cap z ds p bx p' cap' bx') : RwAt n lo live (.row p' (len + ds.length) cap') bx' (z.take (n * len) ++ ds.flatten) ∧ ∀ q, q < lo → bx'[q]? = bx[q]? := by
  have hfl : ds.flatten.length = n * ds.length := flat_len hds
  have hpos : 0 < ds.length := by
    rcases Nat.eq_zero_or_pos ds.length with h | h
    · exact absurd (List.eq_nil_of_length_eq_zero h) hd0
    · exact h
  have htk : (z.take (n * len)).length = n * len := by
    rw [List.length_take]
    rcases hz with ⟨_, h1, h2⟩ | ⟨_, rfl, rfl, _⟩
    · rw [h1]; exact Nat.min_eq_left (Nat.mul_le_mul_left _ h2)
    · simp
  have hlen : (z.take (n * len) ++ ds.flatten).length = n * (len + ds.length) := by rw [List.length_append, htk, hfl, Nat.mul_add]
  rcases h with ⟨rfl, rfl, h3, rfl⟩ | ⟨rfl, h3, r, hr, rfl⟩
  · rcases hz with ⟨h1, h2, h4⟩ | ⟨_, _, h5, h6⟩
    · have hplt : p' < bx.length := by
        rcases Nat.lt_or_ge p' bx.length with h' | h'
        · exact h'
        · rw [List.getElem?_eq_none h'] at h1; cases h1
      have hfit : n * len + n * ds.length ≤ z.length := by rw [h2, ← Nat.mul_add]; exact Nat.mul_le_mul_left _ h3
      have hspl : spl z (n * len) ds.flatten = z.take (n * len) ++ ds.flatten ++ z.drop (n * len + ds.flatten.length) := rfl
      refine ⟨⟨by rw [List.length_set]; exact hlo, .inr ⟨p', _, cap', spl z (n * len) ds.flatten, rfl, hp, List.getElem?_set_self hplt, by rw [spl_len (by rw [hfl]; exact hfit)]; exact h2, h3, ?_⟩⟩, fun q hq => List.getElem?_set_ne (by omega)⟩
      rw [hspl]; exact (List.take_left' hlen).symm
    · omega
  · refine ⟨⟨by rw [List.length_append]; omega, .inr ⟨bx.length, _, cap', _, rfl, hlo, gl_last _ _, ?_, h3, ?_⟩⟩, fun q hq => List.getElem?_append_left (by omega)⟩
    · rw [List.length_append, hlen, hr, ← Nat.mul_add]; congr 1; omega
    · exact (List.take_left' hlen).symm
section
variable {E : Env} {K : St → Prop} {tm : Nat → PV} {bx : List (List PC)} {nt d : Nat} {live : List Nat} {r : List MOpr} {g : Option (Nat × Bool)} {cc : List X} {x y : X} {n lo : Nat} {c : PC} {cells : List PC} {lv : List Nat}
theorem po_lenR {k : Nat} (hR : RwAt n lo lv c bx cells) (hn : cells.length = n * k) (hpos : 0 < n) (hg : gd g tm = some true) (hx : ev tm x = .d c) (h : po E r K ⟨up d (.d (pI k)) tm, bx, nt, live⟩) : po E (⟨some d, .len x, g, cc⟩ :: r) K ⟨tm, bx, nt, live⟩ := by
  refine po_q hg ?_ h
  rcases hR.2 with ⟨t, rfl, _, rfl⟩ | ⟨p, len, cap, z, rfl, h2, h3, h4, h5, h6⟩
  · have : k = 0 := by
      rcases Nat.eq_zero_or_pos k with h | h
      · exact h
      · have := Nat.mul_pos hpos h; simp at hn; omega
    subst this
    simp only [qf, hx]; rfl
  · have : n * len = n * k := by rw [← hn, h6, List.length_take, h4]; exact (Nat.min_eq_left (Nat.mul_le_mul_left _ h5)).symm
    have : len = k := Nat.eq_of_mul_eq_mul_left hpos this
    subst this
    simp only [qf, hx]; rfl
theorem po_ixR {kk : IntKind} {j : Int} {i : Nat} (hR : RwAt n lo lv c bx cells) (_hpos : 0 < n) (hj : j = i) (hi : n * i < cells.length) (hg : gd g tm = some true) (hx : ev tm x = .d c) (hy : ev tm y = .d (.v (.int kk j)))
    (h : ∀ p len cap z, c = .row p len cap → lo ≤ p → bx[p]? = some z → z.length = n * cap → len ≤ cap → cells = z.take (n * len) → i < len → n * i + n ≤ z.length → po E r K ⟨up d (.ref p (n * i)) tm, bx, nt, live⟩) : po E (⟨some d, .ix n x y, g, cc⟩ :: r) K ⟨tm, bx, nt, live⟩ := by
  subst hj
  obtain ⟨p, len, cap, z, e1, h2, h3, h4, h5, h6, h7⟩ := hR.row (fun h => by rw [h] at hi; simp at hi)
  have hil : i < len := by rw [h7] at hi; exact Nat.lt_of_mul_lt_mul_left hi
  refine po_q hg ?_ (h p len cap z e1 h2 h3 h4 h5 h6 hil (by rw [h4, ← Nat.mul_succ]; exact Nat.mul_le_mul_left _ (by omega)))
  simp only [qf, hx, e1, hy]
  rw [if_pos ⟨by omega, by rw [Int.toNat_natCast]; exact hil⟩, Int.toNat_natCast]
/-- an append to a row in a box, or to one that is empty -/
theorem po_appR {k t' m : Nat} {ds : List (List PC)} (hR : RwAt n lo live c bx cells) (hd0 : ds ≠ []) (hn : cells.length = n * m) (hpos : 0 < n) (hl : m + ds.length ≤ 4294967296) (hd : ∀ e ∈ ds, e.length = n) (hx : ev tm x = .d c) (hy : ev tm y = .d (.sl t' ds))
    (h : ∀ c' bx', RwAt n lo live c' bx' (cells ++ ds.flatten) → (∀ q, q < lo → bx'[q]? = bx[q]?) → po E r K ⟨up d (.d c') tm, bx', nt, live⟩) : po E (⟨some d, .app n x y, none, [.f k]⟩ :: r) K ⟨tm, bx, nt, live⟩ := by
  rcases hR.2 with ⟨t, rfl, h1, rfl⟩ | ⟨p, len, cap, z, rfl, h2, h3, h4, h5, h6⟩
  · refine po_appN hx hy h1 hd0 (by omega) hd fun p' cap' bx' hA => ?_
    obtain ⟨a1, a2⟩ := RwAt.app (live := live) hR.1 hR.1 (.inr ⟨rfl, rfl, rfl, rfl⟩) hd hd0 hA
    rw [Nat.mul_zero, List.take_zero] at a1
    exact h _ _ a1 a2
  · have : n * len = n * m := by rw [← hn, h6, List.length_take, h4]; exact (Nat.min_eq_left (Nat.mul_le_mul_left _ h5)).symm
    have : len = m := Nat.eq_of_mul_eq_mul_left hpos this
    refine po_appB hx hy h3 h4 hd0 (by omega) hd fun p' cap' bx' hA => ?_
    obtain ⟨a1, a2⟩ := RwAt.app (live := live) h2 hR.1 (.inl ⟨h3, h4, h5⟩) hd hd0 hA
    rw [← h6] at a1
    exact h _ _ a1 a2
end
theorem RwAt.set {n lo p len cap o : Nat} {live : List Nat} {z : List PC} {bx : List (List PC)} {v : PC} (hlo : lo ≤ bx.length) (hp : lo ≤ p) (hz : bx[p]? = some z) (hl : z.length = n * cap) (hlc : len ≤ cap) (ho : o < n * len) :
    RwAt n lo live (.row p len cap) (bx.set p (spl z o [v])) ((z.take (n * len)).set o v) := by
  have hplt : p < bx.length := by
    rcases Nat.lt_or_ge p bx.length with h' | h'
    · exact h'
    · rw [List.getElem?_eq_none h'] at hz; cases hz
  have hle : n * len ≤ n * cap := Nat.mul_le_mul_left _ hlc
  refine ⟨by rw [List.length_set]; exact hlo, .inr ⟨p, len, cap, _, rfl, hp, List.getElem?_set_self hplt, by rw [spl_len (by rw [List.length_singleton]; omega)]; exact hl, hlc, ?_⟩⟩
  have : spl z o [v] = z.set o v := by
    unfold spl
    rw [List.length_singleton, List.set_eq_take_append_cons_drop, if_pos (by omega)]; simp
  rw [this, List.take_set]
theorem lo_cons {b0 : List PC} {bx rest : List (List PC)} (h : ∀ q, q < 1 → bx[q]? = (b0 :: rest)[q]?) : ∃ rest', bx = b0 :: rest' := by
  have := h 0 (by omega)
  match bx, this with
  | b :: r, e => simp at e; subst e; exact ⟨r, rfl⟩
end Go.Proofs.YthngfihpnfoppaaDoor

namespace Go.Proofs.YthngfihpnfoppaaDoor
open Go.RowKit

def lgA : Nat := 6364136223846793005
def lgC : Nat := 1442695040888963407
/-- one step, not reduced -/
def lgN (x : Nat) : Nat := lgA * x + lgC
def lgI : Nat → Nat → Nat
  | 0, x => x
  | n + 1, x => lgI n (lgN x)
theorem lgI_add : ∀ (a b x : Nat), lgI (a + b) x = lgI b (lgI a x)
  | 0, b, x => by rw [Nat.zero_add]; rfl
  | a + 1, b, x => by rw [Nat.add_right_comm]; show lgI (a + b) (lgN x) = lgI b (lgI a (lgN x)); exact lgI_add a b _
theorem lg_pow : ∀ k : Nat, ∃ m c : Nat, ∀ z, lgI (2 ^ k) z = z + 2 ^ k * (4 * (m * z) + (2 * c + 1))
  | 0 => ⟨1591034055961698251, 721347520444481703, fun z => by show lgA * z + lgC = _; unfold lgA lgC; omega⟩
  | k + 1 => by
    obtain ⟨m, c, h⟩ := lg_pow k
    refine ⟨m + 2 * (2 ^ k * (m * m)), c + 2 ^ k * m * (2 * c + 1), fun z => ?_⟩
    rw [show (2 : Nat) ^ (k + 1) = 2 ^ k + 2 ^ k by rw [Nat.pow_succ]; omega, lgI_add, h, h]
    generalize 2 ^ k = q
    grind
theorem lg_flip (k z : Nat) : lgI (2 ^ k) z % 2 ^ (k + 1) = (z + 2 ^ k) % 2 ^ (k + 1) := by
  obtain ⟨m, c, h⟩ := lg_pow k
  rw [h, Nat.pow_succ]
  have : z + 2 ^ k * (4 * (m * z) + (2 * c + 1)) = z + 2 ^ k + 2 ^ k * 2 * (2 * (m * z) + c) := by generalize 2 ^ k = q; grind
  rw [this, Nat.add_mul_mod_self_left]
theorem lg_reach (x y : Nat) : ∀ k : Nat, ∃ j, j < 2 ^ k ∧ lgI j x % 2 ^ k = y % 2 ^ k
  | 0 => ⟨0, by decide, by rw [Nat.pow_zero, Nat.mod_one, Nat.mod_one]⟩
  | k + 1 => by
    obtain ⟨j, hj, h⟩ := lg_reach x y k
    have e : (2 : Nat) ^ (k + 1) = 2 ^ k + 2 ^ k := by rw [Nat.pow_succ]; omega
    by_cases hh : lgI j x % 2 ^ (k + 1) = y % 2 ^ (k + 1)
    · exact ⟨j, by omega, hh⟩
    · refine ⟨j + 2 ^ k, by omega, ?_⟩
      rw [lgI_add, lg_flip]
      have hp : 0 < 2 ^ k := Nat.two_pow_pos k
      have h1 := Nat.mod_pow_succ (x := lgI j x) (b := 2) (k := k)
      have h2 := Nat.mod_pow_succ (x := y) (b := 2) (k := k)
      have b1 : lgI j x / 2 ^ k % 2 < 2 := Nat.mod_lt _ (by decide)
      have b2 : y / 2 ^ k % 2 < 2 := Nat.mod_lt _ (by decide)
      rw [h] at h1
      rw [h1, h2] at hh
      rw [Nat.add_mod, h1, Nat.mod_eq_of_lt (a := 2 ^ k) (by omega), h2]
      have hlt : y % 2 ^ k < 2 ^ k := Nat.mod_lt _ hp
      generalize y % 2 ^ k = r at *
      generalize lgI j x / 2 ^ k % 2 = u at *
      generalize y / 2 ^ k % 2 = v at *
      generalize 2 ^ k = q at *
      rw [e]
      have hu : u = 0 ∨ u = 1 := by omega
      have hv : v = 0 ∨ v = 1 := by omega
      rcases hu with rfl | rfl <;> rcases hv with rfl | rfl <;> simp only [Nat.mul_one, Nat.mul_zero, Nat.add_zero] at hh ⊢
      · exact absurd trivial hh
      · rw [Nat.mod_eq_of_lt (by omega)]
      · rw [show r + q + q = r + (q + q) by omega, Nat.add_mod_right, Nat.mod_eq_of_lt (by omega)]
      · exact absurd trivial hh
end Go.Proofs.YthngfihpnfoppaaDoor

namespace Go.Proofs.YthngfihpnfoppaaDoor
open Go.RowKit

/-- cells whose rows were made since, and what was live is -/
structure NR (nt : Nat) (live : List Nat) (n : Nat) (l : List Nat) (cs : List PC) : Prop where
  own : ownedL cs = true
  nd : (toksL cs).Nodup
  mem : ∀ t ∈ toksL cs, nt ≤ t ∧ t < n ∧ t ∈ l
  keep : ∀ t ∈ live, 2 ≤ t → t < nt → t ∈ l
  le : nt ≤ n
theorem NR.refl (nt : Nat) (live : List Nat) : NR nt live nt live [] := ⟨rfl, List.nodup_nil, fun t h => (by cases h), fun t h _ _ => h, Nat.le_refl _⟩
theorem NR.trans {nt n1 n2 : Nat} {live l1 l2 : List Nat} {a b : List PC} (h : NR nt live n1 l1 a) (k : NR n1 l1 n2 l2 b) : NR nt live n2 l2 (a ++ b) := by
  refine ⟨by rw [ownedL_append, h.own, k.own]; rfl, ?_, fun t ht => ?_, fun t ht h2 hlt => k.keep t (h.keep t ht h2 hlt) h2 (by have := h.le; omega), Nat.le_trans h.le k.le⟩
  · rw [toksL_append]
    refine List.nodup_append.2 ⟨h.nd, k.nd, fun x hx y hy e => ?_⟩
    subst e
    have := h.mem x hx; have := k.mem x hy; omega
  · rw [toksL_append] at ht
    rcases List.mem_append.1 ht with ht | ht
    · obtain ⟨a1, a2, a3⟩ := h.mem t ht
      exact ⟨a1, by have := k.le; omega, k.keep t a3 (toksL_ge _ t ht) a2⟩
    · obtain ⟨a1, a2, a3⟩ := k.mem t ht
      exact ⟨by have := h.le; omega, a2, a3⟩
theorem NR.plain {nt n : Nat} {live l : List Nat} {cs ds : List PC} (h : NR nt live n l cs) (ho : ownedL ds = true) (ht : toksL ds = toksL cs) : NR nt live n l ds := ⟨ho, by rw [ht]; exact h.nd, fun t h' => h.mem t (by rw [ht] at h'; exact h'), h.keep, h.le⟩
theorem NR.mono {nt n n' : Nat} {live l l' : List Nat} {cs : List PC} (h : NR nt live n l cs) (hn : n ≤ n') (hl : ∀ t ∈ l, 2 ≤ t → t < n → t ∈ l') : NR nt live n' l' cs :=
  ⟨h.own, h.nd, fun t ht => by obtain ⟨a, b, c⟩ := h.mem t ht; exact ⟨a, by omega, hl t c (toksL_ge _ t ht) b⟩, fun t ht h2 hlt => hl t (h.keep t ht h2 hlt) h2 (by have := h.le; omega), Nat.le_trans h.le hn⟩
theorem NR.forget {nt n : Nat} {live l : List Nat} {cs : List PC} (h : NR nt live n l cs) : NR nt live n l [] := ⟨rfl, List.nodup_nil, fun t h => (by cases h), h.keep, h.le⟩
theorem NR.sub {nt n : Nat} {live l : List Nat} {cs ds : List PC} (h : NR nt live n l cs) (ho : ownedL ds = true) (hs : (toksL ds).Sublist (toksL cs)) : NR nt live n l ds := ⟨ho, h.nd.sublist hs, fun t ht => h.mem t (hs.subset ht), h.keep, h.le⟩
theorem toksLL_flat : ∀ es : List (List PC), toksLL es = toksL es.flatten
  | [] => rfl
  | e :: es => by rw [toksLL, List.flatten_cons, toksL_append, toksLL_flat es]
theorem ownedLL_flat : ∀ es : List (List PC), ownedLL es = ownedL es.flatten
  | [] => rfl
  | e :: es => by rw [ownedLL, List.flatten_cons, ownedL_append, ownedLL_flat es]
/-- a row made of these -/
theorem NR.lit {nt n : Nat} {live l : List Nat} {es : List (List PC)} (h2 : 2 ≤ nt) (h : NR nt live n l es.flatten) : NR nt live (n + 1) (n :: l) [.sl n es] := by
  have hn := h.le
  refine ⟨?_, ?_, fun t ht => ?_, fun t ht a b => List.mem_cons_of_mem _ (h.keep t ht a b), by omega⟩
  · rw [ownedL, owned_sl2 (by omega), ownedLL_flat, h.own]; rfl
  · rw [toksL, toks_sl2 (by omega), toksLL_flat]
    simp only [toksL, List.append_nil]
    exact List.nodup_cons.2 ⟨fun hm => by have := h.mem n hm; omega, h.nd⟩
  · rw [toksL, toks_sl2 (by omega), toksLL_flat] at ht
    simp only [toksL, List.append_nil] at ht
    rcases List.mem_cons.1 ht with rfl | ht
    · exact ⟨hn, by omega, List.mem_cons_self ..⟩
    · obtain ⟨a, b, c⟩ := h.mem t ht
      exact ⟨a, by omega, List.mem_cons_of_mem _ c⟩
/-- a row with more behind it -/
theorem NR.app {nt n t : Nat} {live l : List Nat} {a b : List PC} {rows ds : List (List PC)} (h2 : 2 ≤ nt) (ht : t = 1 ∧ rows = [] ∨ 2 ≤ t) (h : NR nt live n l (a ++ .sl t rows :: b ++ ds.flatten)) :
    NR nt live (n + 1) (n :: l.filter (· != t)) (a ++ .sl n (rows ++ ds) :: b) := by
  have hn := h.le
  obtain ⟨o1, o2, o3, o4, _⟩ := h
  have hO : ownedL a = true ∧ ownedLL rows = true ∧ ownedL b = true ∧ ownedL ds.flatten = true := by
    rw [ownedL_append, ownedL_append, ownedL] at o1
    simp only [Bool.and_eq_true] at o1
    refine ⟨o1.1.1, ?_, o1.1.2.2, o1.2⟩
    rcases ht with ⟨_, rfl⟩ | ht
    · rfl
    · rw [owned_sl2 ht] at o1; exact o1.1.2.1
  have hT : ∃ L, toksL (a ++ .sl t rows :: b ++ ds.flatten) = toksL a ++ ((L ++ toksLL rows) ++ toksL b) ++ toksL ds.flatten ∧ (2 ≤ t → t ∈ L) := by
    rcases ht with ⟨rfl, rfl⟩ | ht
    · exact ⟨[], by rw [toksL_append, toksL_append, toksL]; rfl, fun h => by omega⟩
    · exact ⟨[t], by rw [toksL_append, toksL_append, toksL, toks_sl2 ht]; rfl, fun _ => by simp⟩
  obtain ⟨L, hT, hL⟩ := hT
  rw [hT] at o2 o3
  have hne : ∀ x, x ∈ toksL a ∨ x ∈ toksLL rows ∨ x ∈ toksL b ∨ x ∈ toksL ds.flatten → x ≠ t := fun x hx e => by
    subst e
    have h2x : 2 ≤ x := by
      rcases hx with hx | hx | hx | hx
      · exact toksL_ge _ x hx
      · exact toksLL_ge _ x hx
      · exact toksL_ge _ x hx
      · exact toksL_ge _ x hx
    have := hL h2x
    simp only [List.nodup_append, List.mem_append] at o2
    rcases hx with hx | hx | hx | hx
    · exact o2.1.2.2 x hx x (.inl (.inl this)) rfl
    · exact o2.1.2.1.1.2.2 x this x hx rfl
    · exact o2.1.2.1.2.2 x (.inl this) x hx rfl
    · exact o2.2.2 x (.inr (.inl (.inl this))) x hx rfl
  have hmem : ∀ x, x ∈ toksL a ∨ x ∈ toksLL rows ∨ x ∈ toksL b ∨ x ∈ toksL ds.flatten → nt ≤ x ∧ x < n ∧ x ∈ l := fun x hx => o3 x (by
    simp only [List.mem_append]
    rcases hx with hx | hx | hx | hx
    · exact .inl (.inl hx)
    · exact .inl (.inr (.inl (.inr hx)))
    · exact .inl (.inr (.inr hx))
    · exact .inr hx)
  have eT : toksL (a ++ .sl n (rows ++ ds) :: b) = toksL a ++ (n :: (toksLL rows ++ toksL ds.flatten) ++ toksL b) := by
    rw [toksL_append, toksL, toks_sl2 (by omega), toksLL_append, toksLL_flat ds]
  refine ⟨?_, ?_, fun x hx => ?_, fun x hx hx2 hlt => ?_, by omega⟩
  · rw [ownedL_append, ownedL, owned_sl2 (by omega), ownedLL_append, ownedLL_flat ds, hO.1, hO.2.1, hO.2.2.1, hO.2.2.2]; rfl
  · rw [eT]
    simp only [List.nodup_append, List.mem_append, List.nodup_cons, List.mem_cons, List.cons_append] at o2 ⊢
    refine ⟨o2.1.1, ⟨fun hx => ?_, ⟨o2.1.2.1.1.2.1, o2.2.1, fun x hx y hy e => o2.2.2 x (.inr (.inl (.inr hx))) y hy e⟩, o2.1.2.1.2.1, fun x hx y hy e => ?_⟩, fun x hx y hy e => ?_⟩
    · have := hmem n (by rcases hx with (hx | hx) | hx <;> simp [hx]); omega
    · rcases hx with hx | hx
      · exact o2.1.2.1.2.2 x (.inr hx) y hy e
      · exact o2.2.2 y (.inr (.inr hy)) x hx e.symm
    · rcases hy with rfl | (hy | hy) | hy
      · have := hmem x (.inl hx); omega
      · exact o2.1.2.2 x hx y (.inl (.inr hy)) e
      · exact o2.2.2 x (.inl hx) y hy e
      · exact o2.1.2.2 x hx y (.inr hy) e
  · rw [eT] at hx
    simp only [List.mem_append, List.mem_cons, List.cons_append] at hx
    have old : x ∈ toksL a ∨ x ∈ toksLL rows ∨ x ∈ toksL b ∨ x ∈ toksL ds.flatten → nt ≤ x ∧ x < n + 1 ∧ x ∈ n :: l.filter (· != t) := fun h => by
      obtain ⟨a1, a2, a3⟩ := hmem x h
      exact ⟨a1, by omega, List.mem_cons_of_mem _ (List.mem_filter.2 ⟨a3, by simpa using hne x h⟩)⟩
    rcases hx with hx | rfl | (hx | hx) | hx
    · exact old (.inl hx)
    · exact ⟨hn, by omega, List.mem_cons_self ..⟩
    · exact old (.inr (.inl hx))
    · exact old (.inr (.inr (.inr hx)))
    · exact old (.inr (.inr (.inl hx)))
  · refine List.mem_cons_of_mem _ (List.mem_filter.2 ⟨o4 x hx hx2 hlt, ?_⟩)
    simp only [bne_iff_ne, ne_eq]
    rintro rfl
    have := o3 x (by have := hL hx2; simp [this]); omega
theorem NR.lw {nt n k : Nat} {live l : List Nat} {cs : List PC} (h : NR nt live n l cs) : lwL k cs := ownedL_lw h.own

theorem po_gt {E : Env} {d : Nat} {k : Nat} {r : List MOpr} {K : St → Prop} {tm : Nat → PV} {bx : List (List PC)} {nt : Nat} {live : List Nat} {f : Nat} {xs : List X} {args : List PV} {g : Option (Nat × Bool)} {R : PV → List (List PC) → Nat → List Nat → Prop} (hg : gd g tm = some true) (hd : xs.map (ev tm) = args) (hF : FnG E f args bx nt live R)
    (h : ∀ x bx' nt' live', R x bx' nt' live' → po E r K ⟨up d x tm, bx', nt', live'⟩) : po E (⟨some d, .call f xs, g, [.f k]⟩ :: r) K ⟨tm, bx, nt, live⟩ := by
  subst hd
  refine ⟨true, hg, .inl ⟨rfl, .inr ⟨rfl, R, hF, fun x bx' nt' live' hR => ⟨fun y hy => by rw [List.mem_singleton] at hy; subst hy; exact keepX_f _ _ _ _, ?_⟩⟩⟩⟩
  rw [put_up]; exact h x bx' nt' live' hR
/-! ### the cursor -/
def cuC (b : List UInt8) (i h : Int) : List PC := [.sl 0 (pcB b), pI i, pI h]
def Cu (b : List UInt8) (c : List PC) : Prop := ∃ (i : Nat) (h : Int), i ≤ b.length ∧ i64ok h ∧ c = cuC b i h
theorem pcB_get {b : List UInt8} {k : Nat} {x : UInt8} (h : b[k]? = some x) : (pcB b)[k]? = some [.v (.int .u8 x.toNat)] := by simp [pcB, h]
theorem pcB_lw (n : Nat) : ∀ b : List UInt8, lwLL n (pcB b)
  | [] => by simp only [pcB, List.map_nil, lwLL]
  | x :: b => by
    have := pcB_lw n b
    simp only [pcB, List.map_cons, lwLL, lwL, PC.lw] at this ⊢
    exact ⟨⟨trivial, trivial⟩, this⟩
theorem cuC_lw (b : List UInt8) (i h : Int) (n : Nat) : lwL n (cuC b i h) := by
  simp only [cuC, lwL, PC.lw, pI, and_true]; exact pcB_lw n b
theorem Cu.lw {b : List UInt8} {c : List PC} (h : Cu b c) : lwL 0 c := by obtain ⟨i, q, _, _, rfl⟩ := h; exact cuC_lw ..
/-- a function that draws: what it makes of the cursor, and Q of its result -/
def Drw (E : Env) (b : List UInt8) (f : Nat) (args : List PV) (Q : Nat → List Nat → PV → Nat → List Nat → Prop) : Prop :=
  ∀ (c : List PC) (nt : Nat) (live : List Nat), Cu b c → 2 ≤ nt → FnG E f (.ref 0 0 :: args) [c] nt live (fun x bx n l => ∃ c' rest, bx = c' :: rest ∧ x.lw 0 ∧ lwL 0 c' ∧ Cu b c' ∧ Q nt live x n l)
theorem Drw.use {E : Env} {b : List UInt8} {f : Nat} {args : List PV} {Q : Nat → List Nat → PV → Nat → List Nat → Prop} (h : Drw E b f args Q) (ha : lwVs 0 args) {c : List PC} {bx : List (List PC)} {p nt : Nat} {live : List Nat} (hc : Cu b c) (hn : 2 ≤ nt) (hp : bx[p]? = some c) :
    FnG E f (.ref p 0 :: args) bx nt live (fun x b' n l => ∃ c', b' = bx.set p c' ∧ Cu b c' ∧ Q nt live x n l) :=
  FnG.lift1 (R := fun x c' n l => Cu b c' ∧ Q nt live x n l) (h c nt live hc hn) ha hc.lw hp
theorem Drw.mono {E : Env} {b : List UInt8} {f : Nat} {args : List PV} {Q Q' : Nat → List Nat → PV → Nat → List Nat → Prop} (h : Drw E b f args Q) (k : ∀ nt live x n l, 2 ≤ nt → Q nt live x n l → Q' nt live x n l) : Drw E b f args Q' :=
  fun c nt live hc hn => (h c nt live hc hn).mono fun x _b' n l ⟨c', rest, a1, a2, a3, a4, a5⟩ => ⟨c', rest, a1, a2, a3, a4, k nt live x n l hn a5⟩
theorem NR.pass {nt n1 n2 : Nat} {live l1 l2 : List Nat} {cs : List PC} (h : NR nt live n1 l1 cs) (k : NR n1 l1 n2 l2 []) : NR nt live n2 l2 cs := by
  have := h.trans k
  rwa [List.append_nil] at this
/-- plain results -/
def QN (lo hi : Int) : Nat → List Nat → PV → Nat → List Nat → Prop := fun nt live x n l => ∃ r : Int, x = .d (pI r) ∧ lo ≤ r ∧ r ≤ hi ∧ NR nt live n l []
def QT (P : List UInt8 → Prop) : Nat → List Nat → PV → Nat → List Nat → Prop := fun nt live x n l => ∃ s, x = .d (pS s) ∧ P s ∧ NR nt live n l []
def QB : Nat → List Nat → PV → Nat → List Nat → Prop := fun nt live x n l => ∃ r : Bool, x = .d (pB r) ∧ NR nt live n l []

/-! ### values that are drawn -/
mutual
/-- no map has many keys -/
def V.few : V → Prop
  | .mk k _ _ _ kids => (k = 8 → kids.length ≤ 8) ∧ V.fews kids
def V.fews : List V → Prop
  | [] => True
  | v :: vs => v.few ∧ V.fews vs
end
theorem V.fews_all : ∀ {vs : List V}, V.fews vs ↔ ∀ v ∈ vs, v.few
  | [] => by simp [V.fews]
  | v :: vs => by simp only [V.fews, List.mem_cons, forall_eq_or_imp, V.fews_all (vs := vs)]
theorem V.wfs_all : ∀ {vs : List V}, V.wfs vs ↔ ∀ v ∈ vs, v.wf
  | [] => by simp [V.wfs]
  | v :: vs => by simp only [V.wfs, List.mem_cons, forall_eq_or_imp, V.wfs_all (vs := vs)]
structure Gd (B : Nat) (v : V) : Prop where
  wf : v.wf
  few : v.few
  bulk : v.bulk ≤ B
theorem Gd.mono {B B' : Nat} {v : V} (h : Gd B v) (k : B ≤ B') : Gd B' v := ⟨h.wf, h.few, Nat.le_trans h.bulk k⟩
/-- the kids' row may be appended to -/
def RowT (cs : List PC) : Prop := ∃ (a b c d : PC) (t : Nat) (rows : List (List PC)), cs = [a, b, c, d, .sl t rows] ∧ (t = 1 ∧ rows = [] ∨ 2 ≤ t)
def QV (K B : Nat) : Nat → List Nat → PV → Nat → List Nat → Prop := fun nt live x n l => ∃ cs v, x = .ag cs ∧ NR nt live n l cs ∧ erL cs = vC v ∧ Gd B v ∧ RowT cs ∧ v.kids.length ≤ K
end Go.Proofs.YthngfihpnfoppaaDoor

namespace Go.Proofs.YthngfihpnfoppaaDoor
open Go.RowKit

noncomputable def ngl : Nat := Tryd.prog.globals.size
noncomputable def env (T : World → Prop) (hT : Low ngl T) : Env := ⟨Tryd.prog, ngl, T, hT, by kernel_rfl⟩
theorem look_env {T : World → Prop} {hT : Low ngl T} {f : Nat} {r : Nat × M × List MRes} (h : look Tryd.prog f = some r) : look (env T hT).P f = some r := h
end Go.Proofs.YthngfihpnfoppaaDoor

namespace Go.Proofs.YthngfihpnfoppaaDoor
set_option maxRecDepth 100000
def m_s_l02Any : M := .seq (.ops [⟨some 2, .zero [.int .i64 0, .int .i64 0, .int .i64 0, .string ⟨[].toArray⟩, .slice none 0 0], none, []⟩])
 (.seq (.ops [⟨some 8, .mv (.t 0), none, []⟩,
  ⟨some 9, .mv (.t 0), none, []⟩,
  ⟨some 10, .call 23 [.t 9, .c (.int .i64 3)], none, [.f 1]⟩,
  ⟨some 11, .call 22 [.t 8, .c (.int .i64 3), .t 10], none, [.f 1]⟩,
  ⟨some 3, .zero [.int .i64 0, .int .i64 0, .int .i64 0, .string ⟨[].toArray⟩, .slice none 0 0], none, []⟩,
  ⟨none, .store 5 (.t 3) (.t 11), none, []⟩])
 (.seq (.seq (.ops [⟨some 12, .mv (.t 0), none, []⟩,
  ⟨some 13, .call 24 [.t 12, .c (.int .i64 24)], none, [.f 1]⟩])
 (.block 0 (.seq (.ops [⟨some 15, .bin .eql false (.t 13) (.c (.int .i64 0)), none, []⟩,
  ⟨some 14, .mv (.t 15), none, []⟩])
 (.cond (.t 14) (.ops [⟨some 16, .mv (.t 0), none, []⟩,
  ⟨some 17, .call 24 [.t 16, .c (.int .i64 12)], none, [.f 1]⟩,
  ⟨some 18, .bin .sub false (.t 17) (.c (.int .i64 1)), none, []⟩,
  ⟨some 19, .fld 0 (.t 3), none, []⟩,
  ⟨none, .store 1 (.t 19) (.t 18), none, []⟩])
 (.seq (.ops [⟨some 21, .bin .eql false (.t 13) (.c (.int .i64 1)), none, []⟩,
  ⟨some 20, .mv (.t 21), none, []⟩])
 (.cond (.t 20) (.ops [⟨some 22, .mv (.t 0), none, []⟩,
  ⟨some 23, .lit 1 [.c (.int .i64 1), .c (.int .i64 10), .c (.int .i64 (-1)), .c (.int .i64 1000001)], none, []⟩,
  ⟨some 24, .call 25 [.t 22, .t 23], none, [.f 1]⟩,
  ⟨some 25, .fld 1 (.t 3), none, []⟩,
  ⟨none, .store 1 (.t 25) (.t 24), none, []⟩])
 (.seq (.ops [⟨some 27, .bin .eql false (.t 13) (.c (.int .i64 2)), none, []⟩,
  ⟨some 26, .mv (.t 27), none, []⟩])
 (.cond (.t 26) (.ops [⟨some 28, .fld 4 (.t 3), none, []⟩,
  ⟨some 29, .load false 1 (.t 28), none, []⟩,
  ⟨some 30, .mv (.t 0), none, []⟩,
  ⟨some 31, .call 26 [.t 30, .c (.bool false)], none, [.f 0, .t 28]⟩,
  ⟨some 32, .litq 5 [.t 31], none, []⟩,
  ⟨some 33, .app 5 (.t 29) (.t 32), none, [.f 0]⟩,
  ⟨some 34, .fld 4 (.t 3), none, []⟩,
  ⟨none, .store 1 (.t 34) (.t 33), none, []⟩])
 (.seq (.ops [⟨some 36, .bin .eql false (.t 13) (.c (.int .i64 3)), none, []⟩,
  ⟨some 35, .mv (.t 36), none, []⟩])
 (.cond (.t 35) (.seq (.ops [⟨some 37, .call 27 [.c (.string ⟨[97].toArray⟩)], none, [.f 1]⟩,
  ⟨some 38, .call 28 [.c (.int .i64 1)], none, [.f 1]⟩,
  ⟨some 39, .call 27 [.c (.string ⟨[97].toArray⟩)], none, [.f 1]⟩,
  ⟨some 40, .call 28 [.c (.int .i64 2)], none, [.f 1]⟩,
  ⟨some 41, .lit 5 [.t 37, .t 38, .t 39, .t 40], none, []⟩,
  ⟨some 42, .build [.int .i64 0, .int .i64 0, .int .i64 0, .string ⟨[].toArray⟩, .slice none 0 0] [(0, 1, .c (.int .i64 8)), (4, 1, .t 41)], none, []⟩,
  ⟨none, .store 5 (.t 2) (.t 42), none, []⟩])
 (.ret))
 (.seq (.ops [⟨some 44, .bin .eql false (.t 13) (.c (.int .i64 4)), none, []⟩,
  ⟨some 43, .mv (.t 44), none, []⟩])
 (.cond (.t 43) (.seq (.ops [⟨some 45, .mv (.t 0), none, []⟩,
  ⟨some 46, .call 24 [.t 45, .c (.int .i64 3)], none, [.f 1]⟩,
  ⟨some 47, .bin .add false (.c (.int .i64 11)) (.t 46), none, []⟩,
  ⟨some 4, .mv (.t 47), none, []⟩])
 (.seq (.ops [⟨some 5, .mv (.c (.int .i64 0)), none, []⟩])
 (.block 1 (.loop (.seq (.seq (.ops [⟨some 48, .mv (.t 5), none, []⟩,
  ⟨some 49, .mv (.t 4), none, []⟩,
  ⟨some 50, .bin .lss false (.t 48) (.t 49), none, []⟩])
 (.cond (.t 50) (.skip)
 (.exit 1)))
 (.seq (.block 2 (.ops [⟨some 53, .load true 5 (.t 3), none, []⟩,
  ⟨some 54, .lit 5 [.t 53], none, []⟩,
  ⟨some 55, .build [.int .i64 0, .int .i64 0, .int .i64 0, .string ⟨[].toArray⟩, .slice none 0 0] [(0, 1, .c (.int .i64 7)), (4, 1, .t 54)], none, []⟩,
  ⟨none, .store 5 (.t 3) (.t 55), none, []⟩]))
 (.ops [⟨some 51, .mv (.t 5), none, []⟩,
  ⟨some 52, .bin .add false (.t 51) (.c (.int .i64 1)), none, []⟩,
  ⟨some 5, .mv (.t 52), none, []⟩])))))))
 (.seq (.ops [⟨some 57, .bin .eql false (.t 13) (.c (.int .i64 5)), none, []⟩,
  ⟨some 56, .mv (.t 57), none, []⟩])
 (.cond (.t 56) (.seq (.ops [⟨some 58, .mv (.t 0), none, []⟩,
  ⟨some 59, .call 24 [.t 58, .c (.int .i64 3)], none, [.f 1]⟩,
  ⟨some 60, .bin .add false (.c (.int .i64 298)) (.t 59), none, []⟩,
  ⟨some 6, .mv (.t 60), none, []⟩])
 (.seq (.ops [⟨some 61, .build [.int .i64 0, .int .i64 0, .int .i64 0, .string ⟨[].toArray⟩, .slice none 0 0] [(0, 1, .c (.int .i64 7))], none, []⟩,
  ⟨none, .store 5 (.t 3) (.t 61), none, []⟩])
 (.seq (.ops [⟨some 7, .mv (.c (.int .i64 0)), none, []⟩])
 (.block 3 (.loop (.seq (.seq (.ops [⟨some 62, .mv (.t 7), none, []⟩,
  ⟨some 63, .mv (.t 6), none, []⟩,
  ⟨some 64, .bin .lss false (.t 62) (.t 63), none, []⟩])
 (.cond (.t 64) (.skip)
 (.exit 3)))
 (.seq (.block 4 (.ops [⟨some 67, .fld 4 (.t 3), none, []⟩,
  ⟨some 68, .load false 1 (.t 67), none, []⟩,
  ⟨some 69, .build [.int .i64 0, .int .i64 0, .int .i64 0, .string ⟨[].toArray⟩, .slice none 0 0] [], none, []⟩,
  ⟨some 70, .lit 5 [.t 69], none, []⟩,
  ⟨some 71, .app 5 (.t 68) (.t 70), none, [.f 1]⟩,
  ⟨some 72, .fld 4 (.t 3), none, []⟩,
  ⟨none, .store 1 (.t 72) (.t 71), none, []⟩]))
 (.ops [⟨some 65, .mv (.t 7), none, []⟩,
  ⟨some 66, .bin .add false (.t 65) (.c (.int .i64 1)), none, []⟩,
  ⟨some 7, .mv (.t 66), none, []⟩]))))))))
 (.skip)))))))))))))))
 (.seq (.ops [⟨some 73, .load true 5 (.t 3), none, []⟩,
  ⟨none, .store 5 (.t 2) (.t 73), none, []⟩])
 (.ret))))
theorem lk_s_l02Any : look Tryd.prog 11 = some (74, m_s_l02Any, [.cell true 5 2]) := by kernel_rfl
def m_s_l01New : M := .seq (.ops [⟨some 2, .mv (.c (.pointer none)), none, []⟩])
 (.seq (.ops [⟨some 5, .mv (.t 0), none, []⟩,
  ⟨some 6, .len (.t 5), none, []⟩,
  ⟨some 7, .bin .add false (.c (.int .i64 421421)) (.t 6), none, []⟩,
  ⟨some 3, .mv (.t 7), none, []⟩])
 (.seq (.seq (.ops [⟨some 4, .mv (.c (.int .i64 0)), none, []⟩])
 (.block 0 (.loop (.seq (.seq (.ops [⟨some 8, .mv (.t 4), none, []⟩,
  ⟨some 9, .mv (.t 0), none, []⟩,
  ⟨some 10, .len (.t 9), none, []⟩,
  ⟨some 11, .bin .lss false (.t 8) (.t 10), none, []⟩,
  ⟨some 12, .mv (.t 11), none, []⟩,
  ⟨some 13, .mv (.t 4), some (12, true), []⟩,
  ⟨some 14, .bin .lss false (.t 13) (.c (.int .i64 4000)), some (12, true), []⟩,
  ⟨some 15, .pick (.t 12) (.t 14) (.c (.bool false)), none, []⟩])
 (.cond (.t 15) (.skip)
 (.exit 0)))
 (.seq (.block 1 (.ops [⟨some 18, .mv (.t 3), none, []⟩,
  ⟨some 19, .bin .mul false (.t 18) (.c (.int .i64 131)), none, []⟩,
  ⟨some 20, .mv (.t 0), none, []⟩,
  ⟨some 21, .mv (.t 4), none, []⟩,
  ⟨some 22, .ix 1 (.t 20) (.t 21), none, []⟩,
  ⟨some 23, .load false 1 (.t 22), none, []⟩,
  ⟨some 24, .conv .i64 (.t 23), none, []⟩,
  ⟨some 25, .bin .add false (.t 19) (.t 24), none, []⟩,
  ⟨some 26, .bin .add false (.t 25) (.c (.int .i64 7)), none, []⟩,
  ⟨some 27, .bin .and false (.t 26) (.c (.int .i64 1073741823)), none, []⟩,
  ⟨some 3, .mv (.t 27), none, []⟩]))
 (.ops [⟨some 16, .mv (.t 4), none, []⟩,
  ⟨some 17, .bin .add false (.t 16) (.c (.int .i64 1)), none, []⟩,
  ⟨some 4, .mv (.t 17), none, []⟩]))))))
 (.seq (.ops [⟨some 28, .mv (.t 0), none, []⟩,
  ⟨some 29, .mv (.t 3), none, []⟩,
  ⟨some 30, .build [.slice none 0 0, .int .i64 0, .int .i64 0] [(0, 1, .t 28), (2, 1, .t 29)], none, []⟩,
  ⟨some 31, .box (.t 30), none, []⟩,
  ⟨some 2, .mv (.t 31), none, []⟩])
 (.ret))))
theorem lk_s_l01New : look Tryd.prog 12 = some (32, m_s_l01New, [.tm 2]) := by kernel_rfl
def m_s_l02Make : M := .seq (.ops [⟨some 6, .zero [.int .i64 0, .int .i64 0, .int .i64 0, .string ⟨[].toArray⟩, .slice none 0 0], none, []⟩])
 (.seq (.seq (.ops [⟨some 12, .mv (.t 1), none, []⟩,
  ⟨some 13, .bin .leq false (.t 12) (.c (.int .i64 0)), none, []⟩,
  ⟨some 14, .mv (.t 13), none, []⟩,
  ⟨some 15, .mv (.t 0), some (14, false), []⟩,
  ⟨some 16, .call 23 [.t 15, .c (.int .i64 3)], some (14, false), [.f 1]⟩,
  ⟨some 17, .pick (.t 14) (.c (.bool true)) (.t 16), none, []⟩])
 (.cond (.t 17) (.seq (.ops [⟨some 18, .mv (.t 0), none, []⟩,
  ⟨some 19, .mv (.t 2), none, []⟩,
  ⟨some 20, .call 26 [.t 18, .t 19], none, [.f 1]⟩,
  ⟨none, .store 5 (.t 6) (.t 20), none, []⟩])
 (.ret))
 (.skip)))
 (.seq (.ops [⟨some 21, .build [.int .i64 0, .int .i64 0, .int .i64 0, .string ⟨[].toArray⟩, .slice none 0 0] [(0, 1, .c (.int .i64 7))], none, []⟩,
  ⟨some 7, .zero [.int .i64 0, .int .i64 0, .int .i64 0, .string ⟨[].toArray⟩, .slice none 0 0], none, []⟩,
  ⟨none, .store 5 (.t 7) (.t 21), none, []⟩])
 (.seq (.ops [⟨some 22, .mv (.t 0), none, []⟩,
  ⟨some 23, .call 24 [.t 22, .c (.int .i64 4)], none, [.f 1]⟩,
  ⟨some 8, .mv (.t 23), none, []⟩])
 (.seq (.seq (.ops [⟨some 24, .mv (.t 0), none, []⟩,
  ⟨some 25, .call 24 [.t 24, .c (.int .i64 5)], none, [.f 1]⟩])
 (.block 0 (.seq (.ops [⟨some 27, .bin .eql false (.t 25) (.c (.int .i64 0)), none, []⟩,
  ⟨some 26, .mv (.t 27), none, []⟩])
 (.cond (.t 26) (.seq (.ops [⟨some 28, .mv (.t 2), none, []⟩,
  ⟨some 29, .not (.t 28), none, []⟩])
 (.cond (.t 29) (.seq (.ops [⟨some 30, .mv (.t 0), none, []⟩,
  ⟨some 31, .lit 1 [.c (.int .i64 0), .c (.int .i64 1), .c (.int .i64 24), .c (.int .i64 1000), .c (.int .i64 1000000)], none, []⟩,
  ⟨some 32, .call 25 [.t 30, .t 31], none, [.f 1]⟩,
  ⟨some 33, .mv (.t 0), none, []⟩,
  ⟨some 34, .mv (.t 1), none, []⟩,
  ⟨some 35, .bin .sub false (.t 34) (.c (.int .i64 1)), none, []⟩,
  ⟨some 36, .mv (.t 2), none, []⟩,
  ⟨some 37, .call 22 [.t 33, .t 35, .t 36], none, [.f 1]⟩,
  ⟨some 38, .lit 5 [.t 37], none, []⟩,
  ⟨some 39, .build [.int .i64 0, .int .i64 0, .int .i64 0, .string ⟨[].toArray⟩, .slice none 0 0] [(0, 1, .c (.int .i64 9)), (1, 1, .t 32), (4, 1, .t 38)], none, []⟩,
  ⟨none, .store 5 (.t 6) (.t 39), none, []⟩])
 (.ret))
 (.skip)))
 (.seq (.seq (.ops [⟨some 41, .bin .eql false (.t 25) (.c (.int .i64 1)), none, []⟩,
  ⟨some 40, .mv (.t 41), none, []⟩])
 (.cond (.t 40) (.skip)
 (.ops [⟨some 42, .bin .eql false (.t 25) (.c (.int .i64 2)), none, []⟩,
  ⟨some 40, .mv (.t 42), none, []⟩])))
 (.cond (.t 40) (.seq (.ops [⟨some 43, .fld 0 (.t 7), none, []⟩,
  ⟨none, .store 1 (.t 43) (.c (.int .i64 8)), none, []⟩])
 (.seq (.seq (.ops [⟨some 9, .mv (.c (.int .i64 0)), none, []⟩])
 (.block 1 (.loop (.seq (.seq (.ops [⟨some 44, .mv (.t 9), none, []⟩,
  ⟨some 45, .mv (.t 8), none, []⟩,
  ⟨some 46, .bin .lss false (.t 44) (.t 45), none, []⟩])
 (.cond (.t 46) (.skip)
 (.exit 1)))
 (.seq (.block 2 (.seq (.ops [⟨some 49, .lit 1 [.c (.string ⟨[110, 97, 109, 101].toArray⟩), .c (.string ⟨[105, 100].toArray⟩), .c (.string ⟨[108, 105, 115, 116].toArray⟩), .c (.string ⟨[99, 111, 109, 109, 111, 110, 32, 107, 101, 121].toArray⟩)], none, []⟩,
  ⟨some 50, .mv (.t 9), none, []⟩,
  ⟨some 51, .ix 1 (.t 49) (.t 50), none, []⟩,
  ⟨some 52, .load false 1 (.t 51), none, []⟩,
  ⟨some 53, .call 27 [.t 52], none, [.f 1]⟩,
  ⟨some 10, .zero [.int .i64 0, .int .i64 0, .int .i64 0, .string ⟨[].toArray⟩, .slice none 0 0], none, []⟩,
  ⟨none, .store 5 (.t 10) (.t 53), none, []⟩])
 (.seq (.seq (.ops [⟨some 54, .mv (.t 0), none, []⟩,
  ⟨some 55, .call 23 [.t 54, .c (.int .i64 8)], none, [.f 1]⟩,
  ⟨some 56, .mv (.t 55), none, []⟩,
  ⟨some 57, .mv (.t 2), some (56, true), []⟩,
  ⟨some 58, .not (.t 57), some (56, true), []⟩,
  ⟨some 59, .pick (.t 56) (.t 58) (.c (.bool false)), none, []⟩])
 (.cond (.t 59) (.ops [⟨some 60, .mv (.t 9), none, []⟩,
  ⟨some 61, .call 28 [.t 60], none, [.f 1]⟩,
  ⟨none, .store 5 (.t 10) (.t 61), none, []⟩])
 (.skip)))
 (.ops [⟨some 62, .fld 4 (.t 7), none, []⟩,
  ⟨some 63, .load false 1 (.t 62), none, []⟩,
  ⟨some 64, .load true 5 (.t 10), none, []⟩,
  ⟨some 65, .mv (.t 0), none, []⟩,
  ⟨some 66, .mv (.t 1), none, []⟩,
  ⟨some 67, .bin .sub false (.t 66) (.c (.int .i64 1)), none, []⟩,
  ⟨some 68, .mv (.t 2), none, []⟩,
  ⟨some 69, .call 22 [.t 65, .t 67, .t 68], none, [.f 0, .t 62, .t 10]⟩,
  ⟨some 70, .litq 5 [.t 64, .t 69], none, []⟩,
  ⟨some 71, .app 5 (.t 63) (.t 70), none, [.f 0]⟩,
  ⟨some 72, .fld 4 (.t 7), none, []⟩,
  ⟨none, .store 1 (.t 72) (.t 71), none, []⟩]))))
 (.ops [⟨some 47, .mv (.t 9), none, []⟩,
  ⟨some 48, .bin .add false (.t 47) (.c (.int .i64 1)), none, []⟩,
  ⟨some 9, .mv (.t 48), none, []⟩]))))))
 (.seq (.ops [⟨some 73, .load true 5 (.t 7), none, []⟩,
  ⟨none, .store 5 (.t 6) (.t 73), none, []⟩])
 (.ret))))
 (.skip)))))))
 (.seq (.seq (.ops [⟨some 11, .mv (.c (.int .i64 0)), none, []⟩])
 (.block 3 (.loop (.seq (.seq (.ops [⟨some 74, .mv (.t 11), none, []⟩,
  ⟨some 75, .mv (.t 8), none, []⟩,
  ⟨some 76, .bin .lss false (.t 74) (.t 75), none, []⟩])
 (.cond (.t 76) (.skip)
 (.exit 3)))
 (.seq (.block 4 (.ops [⟨some 79, .fld 4 (.t 7), none, []⟩,
  ⟨some 80, .load false 1 (.t 79), none, []⟩,
  ⟨some 81, .mv (.t 0), none, []⟩,
  ⟨some 82, .mv (.t 1), none, []⟩,
  ⟨some 83, .bin .sub false (.t 82) (.c (.int .i64 1)), none, []⟩,
  ⟨some 84, .mv (.t 2), none, []⟩,
  ⟨some 85, .call 22 [.t 81, .t 83, .t 84], none, [.f 0, .t 79]⟩,
  ⟨some 86, .litq 5 [.t 85], none, []⟩,
  ⟨some 87, .app 5 (.t 80) (.t 86), none, [.f 0]⟩,
  ⟨some 88, .fld 4 (.t 7), none, []⟩,
  ⟨none, .store 1 (.t 88) (.t 87), none, []⟩]))
 (.ops [⟨some 77, .mv (.t 11), none, []⟩,
  ⟨some 78, .bin .add false (.t 77) (.c (.int .i64 1)), none, []⟩,
  ⟨some 11, .mv (.t 78), none, []⟩]))))))
 (.seq (.ops [⟨some 89, .load true 5 (.t 7), none, []⟩,
  ⟨none, .store 5 (.t 6) (.t 89), none, []⟩])
 (.ret)))))))
theorem lk_s_l02Make : look Tryd.prog 22 = some (90, m_s_l02Make, [.cell true 5 6]) := by kernel_rfl
def m_s_l01Once : M := .seq (.ops [⟨some 4, .mv (.c (.bool false)), none, []⟩])
 (.seq (.ops [⟨some 5, .mv (.t 0), none, []⟩,
  ⟨some 6, .mv (.t 1), none, []⟩,
  ⟨some 7, .call 24 [.t 5, .t 6], none, [.f 1]⟩,
  ⟨some 8, .bin .eql false (.t 7) (.c (.int .i64 0)), none, []⟩,
  ⟨some 4, .mv (.t 8), none, []⟩])
 (.ret))
theorem lk_s_l01Once : look Tryd.prog 23 = some (9, m_s_l01Once, [.tm 4]) := by kernel_rfl
def m_s_l01Below : M := .seq (.ops [⟨some 4, .mv (.c (.int .i64 0)), none, []⟩])
 (.seq (.seq (.ops [⟨some 9, .mv (.t 1), none, []⟩,
  ⟨some 10, .bin .leq false (.t 9) (.c (.int .i64 0)), none, []⟩])
 (.cond (.t 10) (.seq (.ops [⟨some 4, .mv (.c (.int .i64 0)), none, []⟩])
 (.ret))
 (.skip)))
 (.seq (.seq (.ops [⟨some 11, .mv (.t 1), none, []⟩,
  ⟨some 12, .bin .leq false (.t 11) (.c (.int .i64 256)), none, []⟩])
 (.cond (.t 12) (.seq (.ops [⟨some 13, .mv (.t 0), none, []⟩,
  ⟨some 14, .call 39 [.t 13], none, [.f 1]⟩,
  ⟨some 15, .mv (.t 1), none, []⟩,
  ⟨some 16, .bin .rem false (.t 14) (.t 15), none, []⟩,
  ⟨some 4, .mv (.t 16), none, []⟩])
 (.ret))
 (.skip)))
 (.seq (.ops [⟨some 17, .mv (.t 0), none, []⟩,
  ⟨some 18, .call 39 [.t 17], none, [.f 1]⟩,
  ⟨some 5, .mv (.t 18), none, []⟩])
 (.seq (.ops [⟨some 19, .mv (.t 0), none, []⟩,
  ⟨some 20, .call 39 [.t 19], none, [.f 1]⟩,
  ⟨some 6, .mv (.t 20), none, []⟩])
 (.seq (.ops [⟨some 21, .mv (.t 0), none, []⟩,
  ⟨some 22, .call 39 [.t 21], none, [.f 1]⟩,
  ⟨some 7, .mv (.t 22), none, []⟩])
 (.seq (.ops [⟨some 23, .mv (.t 0), none, []⟩,
  ⟨some 24, .call 39 [.t 23], none, [.f 1]⟩,
  ⟨some 8, .mv (.t 24), none, []⟩])
 (.seq (.ops [⟨some 25, .mv (.t 5), none, []⟩,
  ⟨some 26, .bin .mul false (.t 25) (.c (.int .i64 16777216)), none, []⟩,
  ⟨some 27, .mv (.t 6), none, []⟩,
  ⟨some 28, .bin .mul false (.t 27) (.c (.int .i64 65536)), none, []⟩,
  ⟨some 29, .bin .add false (.t 26) (.t 28), none, []⟩,
  ⟨some 30, .mv (.t 7), none, []⟩,
  ⟨some 31, .bin .mul false (.t 30) (.c (.int .i64 256)), none, []⟩,
  ⟨some 32, .bin .add false (.t 29) (.t 31), none, []⟩,
  ⟨some 33, .mv (.t 8), none, []⟩,
  ⟨some 34, .bin .add false (.t 32) (.t 33), none, []⟩,
  ⟨some 35, .mv (.t 1), none, []⟩,
  ⟨some 36, .bin .rem false (.t 34) (.t 35), none, []⟩,
  ⟨some 4, .mv (.t 36), none, []⟩])
 (.ret))))))))
theorem lk_s_l01Below : look Tryd.prog 24 = some (37, m_s_l01Below, [.tm 4]) := by kernel_rfl
def m_s_l01PickInt : M := .seq (.ops [⟨some 4, .mv (.c (.int .i64 0)), none, []⟩])
 (.seq (.ops [⟨some 5, .mv (.t 1), none, []⟩,
  ⟨some 6, .mv (.t 0), none, []⟩,
  ⟨some 7, .mv (.t 1), none, []⟩,
  ⟨some 8, .len (.t 7), none, []⟩,
  ⟨some 9, .call 24 [.t 6, .t 8], none, [.f 1]⟩,
  ⟨some 10, .ix 1 (.t 5) (.t 9), none, []⟩,
  ⟨some 11, .load false 1 (.t 10), none, []⟩,
  ⟨some 4, .mv (.t 11), none, []⟩])
 (.ret))
theorem lk_s_l01PickInt : look Tryd.prog 25 = some (12, m_s_l01PickInt, [.tm 4]) := by kernel_rfl
def m_s_l02Leaf : M := .seq (.ops [⟨some 4, .zero [.int .i64 0, .int .i64 0, .int .i64 0, .string ⟨[].toArray⟩, .slice none 0 0], none, []⟩])
 (.seq (.seq (.ops [⟨some 5, .mv (.t 0), none, []⟩,
  ⟨some 6, .call 24 [.t 5, .c (.int .i64 9)], none, [.f 1]⟩])
 (.block 0 (.seq (.ops [⟨some 8, .bin .eql false (.t 6) (.c (.int .i64 0)), none, []⟩,
  ⟨some 7, .mv (.t 8), none, []⟩])
 (.cond (.t 7) (.seq (.ops [⟨some 9, .mv (.t 0), none, []⟩,
  ⟨some 10, .call 24 [.t 9, .c (.int .i64 3)], none, [.f 1]⟩,
  ⟨some 11, .build [.int .i64 0, .int .i64 0, .int .i64 0, .string ⟨[].toArray⟩, .slice none 0 0] [(0, 1, .t 10)], none, []⟩,
  ⟨none, .store 5 (.t 4) (.t 11), none, []⟩])
 (.ret))
 (.seq (.ops [⟨some 13, .bin .eql false (.t 6) (.c (.int .i64 1)), none, []⟩,
  ⟨some 12, .mv (.t 13), none, []⟩])
 (.cond (.t 12) (.seq (.ops [⟨some 14, .mv (.t 0), none, []⟩,
  ⟨some 15, .lit 1 [.c (.int .i64 15), .c (.int .i64 (-3)), .c (.int .i64 1), .c (.int .i64 9007199254740993), .c (.int .i64 (-999999999999999999))], none, []⟩,
  ⟨some 16, .call 25 [.t 14, .t 15], none, [.f 1]⟩,
  ⟨some 17, .mv (.t 0), none, []⟩,
  ⟨some 18, .lit 1 [.c (.int .i64 (-1)), .c (.int .i64 (-2)), .c (.int .i64 19), .c (.int .i64 20), .c (.int .i64 (-20))], none, []⟩,
  ⟨some 19, .call 25 [.t 17, .t 18], none, [.f 1]⟩,
  ⟨some 20, .build [.int .i64 0, .int .i64 0, .int .i64 0, .string ⟨[].toArray⟩, .slice none 0 0] [(0, 1, .c (.int .i64 4)), (1, 1, .t 16), (2, 1, .t 19)], none, []⟩,
  ⟨none, .store 5 (.t 4) (.t 20), none, []⟩])
 (.ret))
 (.seq (.ops [⟨some 22, .bin .eql false (.t 6) (.c (.int .i64 2)), none, []⟩,
  ⟨some 21, .mv (.t 22), none, []⟩])
 (.cond (.t 21) (.seq (.ops [⟨some 23, .mv (.t 1), none, []⟩,
  ⟨some 24, .not (.t 23), none, []⟩])
 (.cond (.t 24) (.seq (.ops [⟨some 25, .mv (.t 0), none, []⟩,
  ⟨some 26, .mv (.t 0), none, []⟩,
  ⟨some 27, .call 24 [.t 26, .c (.int .i64 8)], none, [.f 1]⟩,
  ⟨some 28, .call 40 [.t 25, .t 27], none, [.f 1]⟩,
  ⟨some 29, .build [.int .i64 0, .int .i64 0, .int .i64 0, .string ⟨[].toArray⟩, .slice none 0 0] [(0, 1, .c (.int .i64 6)), (3, 1, .t 28)], none, []⟩,
  ⟨none, .store 5 (.t 4) (.t 29), none, []⟩])
 (.ret))
 (.skip)))
 (.seq (.seq (.ops [⟨some 31, .bin .eql false (.t 6) (.c (.int .i64 3)), none, []⟩,
  ⟨some 30, .mv (.t 31), none, []⟩])
 (.cond (.t 30) (.skip)
 (.ops [⟨some 32, .bin .eql false (.t 6) (.c (.int .i64 4)), none, []⟩,
  ⟨some 30, .mv (.t 32), none, []⟩])))
 (.cond (.t 30) (.seq (.ops [⟨some 33, .mv (.t 0), none, []⟩,
  ⟨some 34, .lit 1 [.c (.string ⟨[99, 111, 109, 109, 111, 110, 32, 118, 97, 108, 117, 101].toArray⟩), .c (.string ⟨[99, 111, 109, 109, 111, 110, 32, 118, 97, 108].toArray⟩), .c (.string ⟨[97, 110, 111, 116, 104, 101, 114, 32, 99, 111, 109, 109, 111, 110, 32, 118, 97, 108, 117, 101].toArray⟩), .c (.string ⟨[120].toArray⟩), .c (.string ⟨[].toArray⟩)], none, []⟩,
  ⟨some 35, .call 41 [.t 33, .t 34], none, [.f 1]⟩,
  ⟨some 36, .call 27 [.t 35], none, [.f 1]⟩,
  ⟨none, .store 5 (.t 4) (.t 36), none, []⟩])
 (.ret))
 (.seq (.ops [⟨some 38, .bin .eql false (.t 6) (.c (.int .i64 5)), none, []⟩,
  ⟨some 37, .mv (.t 38), none, []⟩])
 (.cond (.t 37) (.seq (.ops [⟨some 39, .mv (.t 0), none, []⟩,
  ⟨some 40, .call 42 [.t 39], none, [.f 1]⟩,
  ⟨some 41, .call 27 [.t 40], none, [.f 1]⟩,
  ⟨none, .store 5 (.t 4) (.t 41), none, []⟩])
 (.ret))
 (.skip)))))))))))))
 (.seq (.ops [⟨some 42, .mv (.t 0), none, []⟩,
  ⟨some 43, .mv (.t 0), none, []⟩,
  ⟨some 44, .call 24 [.t 43, .c (.int .i64 1000)], none, [.f 1]⟩,
  ⟨some 45, .lit 1 [.c (.int .i64 0), .c (.int .i64 1), .c (.int .i64 23), .c (.int .i64 24), .c (.int .i64 255), .c (.int .i64 256), .c (.int .i64 65535), .c (.int .i64 65536), .c (.int .i64 4294967295), .c (.int .i64 4294967296), .c (.int .i64 (-1)), .c (.int .i64 (-24)), .c (.int .i64 (-25)), .c (.int .i64 (-256)), .c (.int .i64 (-257)), .c (.int .i64 9223372036854775807), .c (.int .i64 (-9223372036854775808)), .t 44], none, []⟩,
  ⟨some 46, .call 25 [.t 42, .t 45], none, [.f 1]⟩,
  ⟨some 47, .call 28 [.t 46], none, [.f 1]⟩,
  ⟨none, .store 5 (.t 4) (.t 47), none, []⟩])
 (.ret)))
theorem lk_s_l02Leaf : look Tryd.prog 26 = some (48, m_s_l02Leaf, [.cell true 5 4]) := by kernel_rfl
def m_s_l02Str : M := .seq (.ops [⟨some 2, .zero [.int .i64 0, .int .i64 0, .int .i64 0, .string ⟨[].toArray⟩, .slice none 0 0], none, []⟩])
 (.seq (.ops [⟨some 3, .mv (.t 0), none, []⟩,
  ⟨some 4, .build [.int .i64 0, .int .i64 0, .int .i64 0, .string ⟨[].toArray⟩, .slice none 0 0] [(0, 1, .c (.int .i64 5)), (3, 1, .t 3)], none, []⟩,
  ⟨none, .store 5 (.t 2) (.t 4), none, []⟩])
 (.ret))
theorem lk_s_l02Str : look Tryd.prog 27 = some (5, m_s_l02Str, [.cell true 5 2]) := by kernel_rfl
def m_s_l02Int : M := .seq (.ops [⟨some 2, .zero [.int .i64 0, .int .i64 0, .int .i64 0, .string ⟨[].toArray⟩, .slice none 0 0], none, []⟩])
 (.seq (.ops [⟨some 3, .mv (.t 0), none, []⟩,
  ⟨some 4, .build [.int .i64 0, .int .i64 0, .int .i64 0, .string ⟨[].toArray⟩, .slice none 0 0] [(0, 1, .c (.int .i64 3)), (1, 1, .t 3)], none, []⟩,
  ⟨none, .store 5 (.t 2) (.t 4), none, []⟩])
 (.ret))
theorem lk_s_l02Int : look Tryd.prog 28 = some (5, m_s_l02Int, [.cell true 5 2]) := by kernel_rfl
def m_s_l01Byte : M := .seq (.ops [⟨some 2, .mv (.c (.int .i64 0)), none, []⟩])
 (.seq (.ops [⟨some 4, .mv (.t 0), none, []⟩,
  ⟨some 5, .mv (.t 0), none, []⟩,
  ⟨some 6, .nilc (.t 5), none, []⟩,
  ⟨some 7, .fld 2 (.t 6), none, []⟩,
  ⟨some 8, .load false 1 (.t 7), none, []⟩,
  ⟨some 9, .bin .mul false (.t 8) (.c (.int .i64 6364136223846793005)), none, []⟩,
  ⟨some 10, .bin .add false (.t 9) (.c (.int .i64 1442695040888963407)), none, []⟩,
  ⟨some 11, .nilc (.t 4), none, []⟩,
  ⟨some 12, .fld 2 (.t 11), none, []⟩,
  ⟨none, .store 1 (.t 12) (.t 10), none, []⟩])
 (.seq (.ops [⟨some 13, .mv (.t 0), none, []⟩,
  ⟨some 14, .nilc (.t 13), none, []⟩,
  ⟨some 15, .fld 2 (.t 14), none, []⟩,
  ⟨some 16, .load false 1 (.t 15), none, []⟩,
  ⟨some 17, .bin .shr false (.t 16) (.c (.int .u64 33)), none, []⟩,
  ⟨some 18, .mv (.t 0), none, []⟩,
  ⟨some 19, .nilc (.t 18), none, []⟩,
  ⟨some 20, .fld 2 (.t 19), none, []⟩,
  ⟨some 21, .load false 1 (.t 20), none, []⟩,
  ⟨some 22, .bin .shr false (.t 21) (.c (.int .u64 45)), none, []⟩,
  ⟨some 23, .bin .xor false (.t 17) (.t 22), none, []⟩,
  ⟨some 24, .bin .and false (.t 23) (.c (.int .i64 255)), none, []⟩,
  ⟨some 3, .mv (.t 24), none, []⟩])
 (.seq (.seq (.ops [⟨some 25, .mv (.t 0), none, []⟩,
  ⟨some 26, .nilc (.t 25), none, []⟩,
  ⟨some 27, .fld 1 (.t 26), none, []⟩,
  ⟨some 28, .load false 1 (.t 27), none, []⟩,
  ⟨some 29, .mv (.t 0), none, []⟩,
  ⟨some 30, .nilc (.t 29), none, []⟩,
  ⟨some 31, .fld 0 (.t 30), none, []⟩,
  ⟨some 32, .load false 1 (.t 31), none, []⟩,
  ⟨some 33, .len (.t 32), none, []⟩,
  ⟨some 34, .bin .lss false (.t 28) (.t 33), none, []⟩])
 (.cond (.t 34) (.seq (.ops [⟨some 35, .mv (.t 3), none, []⟩,
  ⟨some 36, .mv (.t 0), none, []⟩,
  ⟨some 37, .nilc (.t 36), none, []⟩,
  ⟨some 38, .fld 0 (.t 37), none, []⟩,
  ⟨some 39, .load false 1 (.t 38), none, []⟩,
  ⟨some 40, .mv (.t 0), none, []⟩,
  ⟨some 41, .nilc (.t 40), none, []⟩,
  ⟨some 42, .fld 1 (.t 41), none, []⟩,
  ⟨some 43, .load false 1 (.t 42), none, []⟩,
  ⟨some 44, .ix 1 (.t 39) (.t 43), none, []⟩,
  ⟨some 45, .load false 1 (.t 44), none, []⟩,
  ⟨some 46, .conv .i64 (.t 45), none, []⟩,
  ⟨some 47, .bin .add false (.t 35) (.t 46), none, []⟩,
  ⟨some 48, .bin .and false (.t 47) (.c (.int .i64 255)), none, []⟩,
  ⟨some 3, .mv (.t 48), none, []⟩])
 (.ops [⟨some 49, .mv (.t 0), none, []⟩,
  ⟨some 50, .mv (.t 0), none, []⟩,
  ⟨some 51, .nilc (.t 50), none, []⟩,
  ⟨some 52, .fld 1 (.t 51), none, []⟩,
  ⟨some 53, .load false 1 (.t 52), none, []⟩,
  ⟨some 54, .bin .add false (.t 53) (.c (.int .i64 1)), none, []⟩,
  ⟨some 55, .nilc (.t 49), none, []⟩,
  ⟨some 56, .fld 1 (.t 55), none, []⟩,
  ⟨none, .store 1 (.t 56) (.t 54), none, []⟩]))
 (.skip)))
 (.seq (.ops [⟨some 57, .mv (.t 3), none, []⟩,
  ⟨some 2, .mv (.t 57), none, []⟩])
 (.ret)))))
theorem lk_s_l01Byte : look Tryd.prog 39 = some (58, m_s_l01Byte, [.tm 2]) := by kernel_rfl
def m_s_l01Text : M := .seq (.ops [⟨some 4, .mv (.c (.string ⟨[].toArray⟩)), none, []⟩])
 (.seq (.ops [⟨some 12, .lit 1 [], none, []⟩,
  ⟨some 5, .mv (.t 12), none, []⟩])
 (.seq (.block 0 (.loop (.seq (.seq (.ops [⟨some 13, .mv (.t 5), none, []⟩,
  ⟨some 14, .len (.t 13), none, []⟩,
  ⟨some 15, .mv (.t 1), none, []⟩,
  ⟨some 16, .bin .lss false (.t 14) (.t 15), none, []⟩])
 (.cond (.t 16) (.skip)
 (.exit 0)))
 (.block 1 (.seq (.ops [⟨some 17, .mv (.t 0), none, []⟩,
  ⟨some 18, .call 24 [.t 17, .c (.int .i64 5)], none, [.f 1]⟩])
 (.block 2 (.seq (.ops [⟨some 27, .bin .eql false (.t 18) (.c (.int .i64 0)), none, []⟩,
  ⟨some 26, .mv (.t 27), none, []⟩])
 (.cond (.t 26) (.ops [⟨some 28, .mv (.t 5), none, []⟩,
  ⟨some 29, .mv (.t 0), none, []⟩,
  ⟨some 30, .call 39 [.t 29], none, [.f 1]⟩,
  ⟨some 31, .conv .u8 (.t 30), none, []⟩,
  ⟨some 32, .lit 1 [.t 31], none, []⟩,
  ⟨some 33, .app 1 (.t 28) (.t 32), none, [.f 1]⟩,
  ⟨some 5, .mv (.t 33), none, []⟩])
 (.seq (.ops [⟨some 35, .bin .eql false (.t 18) (.c (.int .i64 1)), none, []⟩,
  ⟨some 34, .mv (.t 35), none, []⟩])
 (.cond (.t 34) (.seq (.ops [⟨some 36, .mv (.t 0), none, []⟩,
  ⟨some 37, .call 24 [.t 36, .c (.int .i64 9)], none, [.f 1]⟩,
  ⟨some 6, .mv (.t 37), none, []⟩])
 (.seq (.ops [⟨some 38, .mv (.t 0), none, []⟩,
  ⟨some 39, .call 24 [.t 38, .c (.int .i64 4)], none, [.f 1]⟩,
  ⟨some 40, .bin .add false (.c (.int .i64 97)) (.t 39), none, []⟩,
  ⟨some 41, .conv .u8 (.t 40), none, []⟩,
  ⟨some 7, .mv (.t 41), none, []⟩])
 (.seq (.ops [⟨some 8, .mv (.c (.int .i64 0)), none, []⟩])
 (.block 3 (.loop (.seq (.seq (.ops [⟨some 42, .mv (.t 8), none, []⟩,
  ⟨some 43, .mv (.t 6), none, []⟩,
  ⟨some 44, .bin .lss false (.t 42) (.t 43), none, []⟩])
 (.cond (.t 44) (.skip)
 (.exit 3)))
 (.seq (.block 4 (.ops [⟨some 47, .mv (.t 5), none, []⟩,
  ⟨some 48, .mv (.t 7), none, []⟩,
  ⟨some 49, .lit 1 [.t 48], none, []⟩,
  ⟨some 50, .app 1 (.t 47) (.t 49), none, [.f 1]⟩,
  ⟨some 5, .mv (.t 50), none, []⟩]))
 (.ops [⟨some 45, .mv (.t 8), none, []⟩,
  ⟨some 46, .bin .add false (.t 45) (.c (.int .i64 1)), none, []⟩,
  ⟨some 8, .mv (.t 46), none, []⟩]))))))))
 (.seq (.ops [⟨some 52, .bin .eql false (.t 18) (.c (.int .i64 2)), none, []⟩,
  ⟨some 51, .mv (.t 52), none, []⟩])
 (.cond (.t 51) (.seq (.ops [⟨some 53, .mv (.t 5), none, []⟩,
  ⟨some 54, .len (.t 53), none, []⟩,
  ⟨some 55, .bin .gtr false (.t 54) (.c (.int .i64 0)), none, []⟩])
 (.cond (.t 55) (.seq (.ops [⟨some 56, .mv (.t 0), none, []⟩,
  ⟨some 57, .mv (.t 5), none, []⟩,
  ⟨some 58, .len (.t 57), none, []⟩,
  ⟨some 59, .call 24 [.t 56, .t 58], none, [.f 1]⟩,
  ⟨some 9, .mv (.t 59), none, []⟩])
 (.seq (.ops [⟨some 60, .mv (.t 0), none, []⟩,
  ⟨some 61, .call 24 [.t 60, .c (.int .i64 20)], none, [.f 1]⟩,
  ⟨some 10, .mv (.t 61), none, []⟩])
 (.seq (.ops [⟨some 11, .mv (.c (.int .i64 0)), none, []⟩])
 (.block 5 (.loop (.seq (.seq (.ops [⟨some 62, .mv (.t 11), none, []⟩,
  ⟨some 63, .mv (.t 10), none, []⟩,
  ⟨some 64, .bin .lss false (.t 62) (.t 63), none, []⟩,
  ⟨some 65, .mv (.t 64), none, []⟩,
  ⟨some 66, .mv (.t 9), some (65, true), []⟩,
  ⟨some 67, .mv (.t 11), some (65, true), []⟩,
  ⟨some 68, .bin .add false (.t 66) (.t 67), some (65, true), []⟩,
  ⟨some 69, .mv (.t 5), some (65, true), []⟩,
  ⟨some 70, .len (.t 69), some (65, true), []⟩,
  ⟨some 71, .bin .lss false (.t 68) (.t 70), some (65, true), []⟩,
  ⟨some 72, .pick (.t 65) (.t 71) (.c (.bool false)), none, []⟩])
 (.cond (.t 72) (.skip)
 (.exit 5)))
 (.seq (.block 6 (.ops [⟨some 75, .mv (.t 5), none, []⟩,
  ⟨some 76, .mv (.t 5), none, []⟩,
  ⟨some 77, .mv (.t 9), none, []⟩,
  ⟨some 78, .mv (.t 11), none, []⟩,
  ⟨some 79, .bin .add false (.t 77) (.t 78), none, []⟩,
  ⟨some 80, .ix 1 (.t 76) (.t 79), none, []⟩,
  ⟨some 81, .load false 1 (.t 80), none, []⟩,
  ⟨some 82, .lit 1 [.t 81], none, []⟩,
  ⟨some 83, .app 1 (.t 75) (.t 82), none, [.f 1]⟩,
  ⟨some 5, .mv (.t 83), none, []⟩]))
 (.ops [⟨some 73, .mv (.t 11), none, []⟩,
  ⟨some 74, .bin .add false (.t 73) (.c (.int .i64 1)), none, []⟩,
  ⟨some 11, .mv (.t 74), none, []⟩]))))))))
 (.skip)))
 (.ops [⟨some 19, .mv (.t 5), none, []⟩,
  ⟨some 20, .mv (.t 0), none, []⟩,
  ⟨some 21, .call 24 [.t 20, .c (.int .i64 26)], none, [.f 1]⟩,
  ⟨some 22, .bin .add false (.c (.int .i64 97)) (.t 21), none, []⟩,
  ⟨some 23, .conv .u8 (.t 22), none, []⟩,
  ⟨some 24, .lit 1 [.t 23], none, []⟩,
  ⟨some 25, .app 1 (.t 19) (.t 24), none, [.f 1]⟩,
  ⟨some 5, .mv (.t 25), none, []⟩])))))))))))))
 (.seq (.ops [⟨some 84, .mv (.t 5), none, []⟩,
  ⟨some 85, .mv (.t 1), none, []⟩,
  ⟨some 86, .slc 1 (.t 84) none (some (.t 85)), none, []⟩,
  ⟨some 87, .b2s (.t 86), none, []⟩,
  ⟨some 4, .mv (.t 87), none, []⟩])
 (.ret))))
theorem lk_s_l01Text : look Tryd.prog 40 = some (88, m_s_l01Text, [.tm 4]) := by kernel_rfl
def m_s_l01Pick : M := .seq (.ops [⟨some 4, .mv (.c (.string ⟨[].toArray⟩)), none, []⟩])
 (.seq (.ops [⟨some 5, .mv (.t 1), none, []⟩,
  ⟨some 6, .mv (.t 0), none, []⟩,
  ⟨some 7, .mv (.t 1), none, []⟩,
  ⟨some 8, .len (.t 7), none, []⟩,
  ⟨some 9, .call 24 [.t 6, .t 8], none, [.f 1]⟩,
  ⟨some 10, .ix 1 (.t 5) (.t 9), none, []⟩,
  ⟨some 11, .load false 1 (.t 10), none, []⟩,
  ⟨some 4, .mv (.t 11), none, []⟩])
 (.ret))
theorem lk_s_l01Pick : look Tryd.prog 41 = some (12, m_s_l01Pick, [.tm 4]) := by kernel_rfl
def m_s_l01Some : M := .seq (.ops [⟨some 2, .mv (.c (.string ⟨[].toArray⟩)), none, []⟩])
 (.seq (.ops [⟨some 3, .mv (.c (.string ⟨[].toArray⟩)), none, []⟩])
 (.seq (.ops [⟨some 6, .mv (.t 0), none, []⟩,
  ⟨some 7, .call 24 [.t 6, .c (.int .i64 5)], none, [.f 1]⟩,
  ⟨some 4, .mv (.t 7), none, []⟩])
 (.seq (.seq (.ops [⟨some 5, .mv (.c (.int .i64 0)), none, []⟩])
 (.block 0 (.loop (.seq (.seq (.ops [⟨some 8, .mv (.t 5), none, []⟩,
  ⟨some 9, .mv (.t 4), none, []⟩,
  ⟨some 10, .bin .lss false (.t 8) (.t 9), none, []⟩])
 (.cond (.t 10) (.skip)
 (.exit 0)))
 (.seq (.block 1 (.ops [⟨some 13, .mv (.t 3), none, []⟩,
  ⟨some 14, .mv (.t 0), none, []⟩,
  ⟨some 15, .lit 1 [.c (.string ⟨[97].toArray⟩), .c (.string ⟨[98].toArray⟩), .c (.string ⟨[110, 97, 109, 101].toArray⟩), .c (.string ⟨[34].toArray⟩), .c (.string ⟨[92].toArray⟩), .c (.string ⟨[10].toArray⟩), .c (.string ⟨[1].toArray⟩), .c (.string ⟨[195, 169].toArray⟩), .c (.string ⟨[226, 130, 172].toArray⟩), .c (.string ⟨[240, 159, 152, 128].toArray⟩), .c (.string ⟨[47].toArray⟩), .c (.string ⟨[48].toArray⟩), .c (.string ⟨[32].toArray⟩)], none, []⟩,
  ⟨some 16, .call 41 [.t 14, .t 15], none, [.f 1]⟩,
  ⟨some 17, .bin .add false (.t 13) (.t 16), none, []⟩,
  ⟨some 3, .mv (.t 17), none, []⟩]))
 (.ops [⟨some 11, .mv (.t 5), none, []⟩,
  ⟨some 12, .bin .add false (.t 11) (.c (.int .i64 1)), none, []⟩,
  ⟨some 5, .mv (.t 12), none, []⟩]))))))
 (.seq (.ops [⟨some 18, .mv (.t 3), none, []⟩,
  ⟨some 2, .mv (.t 18), none, []⟩])
 (.ret)))))
theorem lk_s_l01Some : look Tryd.prog 42 = some (19, m_s_l01Some, [.tm 2]) := by kernel_rfl
end Go.Proofs.YthngfihpnfoppaaDoor

namespace Go.Proofs.YthngfihpnfoppaaDoor
open Go.RowKit
variable {T : World → Prop} {hT : Low ngl T}
attribute [local irreducible] po mw pt

def andR (a b : Int) : Int := IntKind.i64.wrap (BitVec.ofInt 64 a &&& BitVec.ofInt 64 b).toNat
def xorR (a b : Int) : Int := IntKind.i64.wrap (BitVec.ofInt 64 a ^^^ BitVec.ofInt 64 b).toNat
theorem wrap_ok (x : Int) : i64ok (IntKind.i64.wrap x) := by
  rw [IntKind.wrap_i64]; unfold i64ok; omega
theorem andR_small {m : Nat} (a : Int) (hm : m ≤ 1073741823) : 0 ≤ andR a m ∧ andR a m ≤ m := by
  unfold andR
  rw [BitVec.toNat_and]
  have h1 : (BitVec.ofInt 64 (m : Int)).toNat = m := by
    rw [BitVec.toNat_ofInt]; omega
  have h2 := Nat.and_le_right (n := (BitVec.ofInt 64 a).toNat) (m := (BitVec.ofInt 64 (m : Int)).toNat)
  rw [h1] at h2
  rw [h1, IntKind.wrap_i64]
  omega
/-- the next number -/
def lcM (h : Int) : Int := IntKind.i64.wrap (IntKind.i64.wrap (h * 6364136223846793005) + 1442695040888963407)
/-- its byte -/
def lcX (h : Int) : Int := andR (xorR (h.fdiv (2 ^ 33)) (h.fdiv (2 ^ 45))) 255
theorem lcM_ok (h : Int) : i64ok (lcM h) := wrap_ok _
theorem lcX_bd (h : Int) : 0 ≤ lcX h ∧ lcX h ≤ 255 := andR_small (m := 255) _ (by decide)
/-- one byte drawn: exactly -/
def ByR (b : List UInt8) (i : Nat) (h : Int) (nt : Nat) (live : List Nat) (x : PV) (bx : List (List PC)) (n : Nat) (l : List Nat) : Prop :=
  ∃ (r : Int) (i' : Nat), bx = [cuC b i' (lcM h)] ∧ x = .d (pI r) ∧ 0 ≤ r ∧ r ≤ 255 ∧ i' ≤ b.length ∧ (i < b.length → i' = i + 1) ∧ (i = b.length → i' = i ∧ r = lcX (lcM h)) ∧ n = nt ∧ l = live
theorem byte_g {b : List UInt8} (hb : b.length ≤ 2147483647) {i : Nat} (hi : i ≤ b.length) (h : Int) (nt : Nat) (live : List Nat) :
    FnG (env T hT) 39 [.ref 0 0] [cuC b i h] nt live (ByR b i h nt live) := by
  refine fng_of (look_env lk_s_l01Byte) (by show 1 ≤ 58; decide) fun B hB => ?_
  unfold m_s_l01Byte
  refine mw_seq (mw_ops ?_)
  repeat' (first | refine po_mv rfl (by conv => lhs; whnf) ?_ | refine po_s rfl rfl rfl ?_ | refine po_box rfl ?_ | refine po_zero ?_ | refine po_nil ?_)
  refine mw_seq (mw_ops ?_)
  iterate 4 (first | refine po_mv rfl (by conv => lhs; whnf) ?_ | refine po_s rfl rfl rfl ?_)
  refine po_ldx (cs := cuC b i h) (v := .d (pI h)) rfl rfl rfl (Nat.le_refl 3) rfl ?_
  refine po_q rfl rfl ?_
  refine po_q rfl rfl ?_
  iterate 2 (first | refine po_mv rfl (by conv => lhs; whnf) ?_ | refine po_s rfl rfl rfl ?_)
  refine po_store (p := 0) (o' := 2) (cs := [pI (lcM h)]) (z := cuC b i h) rfl rfl rfl ⟨rfl, Nat.le_refl 3⟩ rfl ?_
  refine po_nil ?_
  refine mw_seq (mw_ops ?_)
  iterate 3 (first | refine po_mv rfl (by conv => lhs; whnf) ?_ | refine po_s rfl rfl rfl ?_)
  refine po_ldx (cs := cuC b i (lcM h)) (v := .d (pI (lcM h))) rfl rfl rfl (Nat.le_refl 3) rfl ?_
  refine po_q rfl rfl ?_
  iterate 3 (first | refine po_mv rfl (by conv => lhs; whnf) ?_ | refine po_s rfl rfl rfl ?_)
  refine po_ldx (cs := cuC b i (lcM h)) (v := .d (pI (lcM h))) rfl rfl rfl (Nat.le_refl 3) rfl ?_
  refine po_q rfl rfl ?_
  refine po_q rfl rfl ?_
  refine po_q (v := .d (pI (lcX (lcM h)))) rfl rfl ?_
  repeat' (first | refine po_mv rfl (by conv => lhs; whnf) ?_ | refine po_s rfl rfl rfl ?_ | refine po_box rfl ?_ | refine po_zero ?_ | refine po_nil ?_)
  obtain ⟨hx0, hx1⟩ := lcX_bd (lcM h)
  generalize hz : lcX (lcM h) = z at hx0 hx1
  refine mw_seq (mw_seq (mw_ops ?_))
  iterate 3 (first | refine po_mv rfl (by conv => lhs; whnf) ?_ | refine po_s rfl rfl rfl ?_)
  refine po_ldx (cs := cuC b i (lcM h)) (v := .d (pI i)) rfl rfl rfl (by show 1 + 1 ≤ 3; decide) rfl ?_
  iterate 3 (first | refine po_mv rfl (by conv => lhs; whnf) ?_ | refine po_s rfl rfl rfl ?_)
  refine po_ldx (cs := cuC b i (lcM h)) (v := .d (.sl 0 (pcB b))) rfl rfl rfl (by show 0 + 1 ≤ 3; decide) rfl ?_
  refine po_len (n := b.length) rfl rfl (pcB_len b) ?_
  by_cases hlt : i < b.length
  · refine po_yes rfl rfl (decide_eq_true (by omega)) ?_
    refine po_nil ?_
    have hg : b[i]? = some b[i] := List.getElem?_eq_getElem hlt
    have hbt := (b[i]).toNat_lt
    refine mw_cond (t := true) rfl (fun _ => ?_) (fun h => absurd h (by decide))
    refine mw_seq (mw_ops ?_)
    iterate 4 (first | refine po_mv rfl (by conv => lhs; whnf) ?_ | refine po_s rfl rfl rfl ?_)
    refine po_ldx (cs := cuC b i (lcM h)) (v := .d (.sl 0 (pcB b))) rfl rfl rfl (by show 0 + 1 ≤ 3; decide) rfl ?_
    iterate 3 (first | refine po_mv rfl (by conv => lhs; whnf) ?_ | refine po_s rfl rfl rfl ?_)
    refine po_ldx (cs := cuC b i (lcM h)) (v := .d (pI i)) rfl rfl rfl (by show 1 + 1 ≤ 3; decide) rfl ?_
    refine po_ix (es := pcB b) (e := [.v (.int .u8 (b[i]).toNat)]) rfl rfl rfl ⟨by omega, by rw [Int.toNat_natCast]; exact pcB_get hg⟩ rfl ?_
    first | refine po_mv rfl (by conv => lhs; whnf) ?_ | refine po_s rfl rfl rfl ?_
    refine po_cv (n := ((b[i]).toNat : Int)) rfl rfl (by rw [IntKind.wrap_i64]; omega) ?_
    refine po_add (n := z + ((b[i]).toNat : Int)) rfl rfl rfl rfl (by omega) ?_
    refine po_q (v := .d (pI (andR (z + ((b[i]).toNat : Int)) 255))) rfl rfl ?_
    repeat' (first | refine po_mv rfl (by conv => lhs; whnf) ?_ | refine po_s rfl rfl rfl ?_ | refine po_box rfl ?_ | refine po_zero ?_ | refine po_nil ?_)
    obtain ⟨hw0, hw1⟩ := andR_small (m := 255) (z + ((b[i]).toNat : Int)) (by decide)
    refine mw_ops ?_
    iterate 4 (first | refine po_mv rfl (by conv => lhs; whnf) ?_ | refine po_s rfl rfl rfl ?_)
    refine po_ldx (cs := cuC b i (lcM h)) (v := .d (pI i)) rfl rfl rfl (by show 1 + 1 ≤ 3; decide) rfl ?_
    refine po_add (n := ((i + 1 : Nat) : Int)) rfl rfl rfl (by omega) (by omega) ?_
    iterate 2 (first | refine po_mv rfl (by conv => lhs; whnf) ?_ | refine po_s rfl rfl rfl ?_)
    refine po_store (p := 0) (o' := 1) (cs := [pI ((i + 1 : Nat) : Int)]) (z := cuC b i (lcM h)) rfl rfl rfl ⟨rfl, by show 1 + 1 ≤ 3; decide⟩ rfl ?_
    refine po_nil ?_
    refine mw_seq (mw_ops ?_)
    repeat' (first | refine po_mv rfl (by conv => lhs; whnf) ?_ | refine po_s rfl rfl rfl ?_ | refine po_box rfl ?_ | refine po_zero ?_ | refine po_nil ?_)
    exact mw_ret ⟨.inr rfl, [.d (pI (andR (z + ((b[i]).toNat : Int)) 255))], rfl, _, i + 1, rfl, rfl, hw0, hw1, hlt, fun _ => rfl, fun he => absurd he (by omega), rfl, rfl⟩
  · refine po_no rfl rfl (decide_eq_false (by omega)) ?_
    refine po_nil ?_
    refine mw_cond (t := false) rfl (fun h => absurd h (by decide)) (fun _ => ?_)
    refine mw_skip ?_
    refine mw_seq (mw_ops ?_)
    repeat' (first | refine po_mv rfl (by conv => lhs; whnf) ?_ | refine po_s rfl rfl rfl ?_ | refine po_box rfl ?_ | refine po_zero ?_ | refine po_nil ?_)
    exact mw_ret ⟨.inr rfl, [.d (pI z)], rfl, z, i, rfl, rfl, hx0, hx1, hi, fun h => absurd h hlt, fun _ => ⟨rfl, hz.symm⟩, rfl, rfl⟩
end Go.Proofs.YthngfihpnfoppaaDoor

namespace Go.Proofs.YthngfihpnfoppaaDoor
open Go.RowKit
variable {T : World → Prop} {hT : Low ngl T}
attribute [local irreducible] po mw pt

theorem byte_drw {b : List UInt8} (hb : b.length ≤ 2147483647) : Drw (env T hT) b 39 [] (QN 0 255) := by
  rintro c nt live ⟨i, h, hi, hh, rfl⟩ hn
  refine (byte_g hb hi h nt live).mono ?_
  rintro x bx n l ⟨r, i', rfl, rfl, h0, h1, hi', _, _, rfl, rfl⟩
  exact ⟨_, [], rfl, trivial, cuC_lw .., ⟨i', _, hi', lcM_ok h, rfl⟩, r, rfl, h0, h1, NR.refl _ _⟩
section
variable {E : Env} {K : St → Prop} {tm : Nat → PV} {bx : List (List PC)} {nt d : Nat} {live : List Nat} {r : List MOpr} {g : Option (Nat × Bool)} {c : List X} {x y : X}
theorem po_rem {a b n : Int} (hg : gd g tm = some true) (hx : ev tm x = .d (pI a)) (hy : ev tm y = .d (pI b)) (hb : b ≠ 0) (hn : a.tmod b = n) (h : po E r K ⟨up d (.d (pI n)) tm, bx, nt, live⟩) : po E (⟨some d, .bin .rem false x y, g, c⟩ :: r) K ⟨tm, bx, nt, live⟩ := by
  refine po_q hg ?_ h
  subst hn
  have e : binV .rem false (.int .i64 a) (.int .i64 b) = some (.int .i64 (a.tmod b)) := by
    show (if IntKind.i64 = IntKind.i64 then (if b = 0 then none else some (Value.int .i64 (a.tmod b))) else none) = _
    rw [if_pos rfl, if_neg hb]
  simp only [qf, hx, hy, pI, e, Option.map_some]
/-- .. and its bounds -/
theorem po_remB {a b : Int} (hg : gd g tm = some true) (hx : ev tm x = .d (pI a)) (hy : ev tm y = .d (pI b)) (ha : 0 ≤ a) (hb : 0 < b) (h : ∀ n, n = a.tmod b → 0 ≤ n → n < b → po E r K ⟨up d (.d (pI n)) tm, bx, nt, live⟩) : po E (⟨some d, .bin .rem false x y, g, c⟩ :: r) K ⟨tm, bx, nt, live⟩ :=
  po_rem hg hx hy (by omega) rfl (h _ rfl (Int.tmod_nonneg b ha) (Int.tmod_lt_of_pos a hb))
end
/-- a number below n, drawn from one byte: exactly -/
def BlR (b : List UInt8) (i : Nat) (h m : Int) (nt : Nat) (live : List Nat) (x : PV) (bx : List (List PC)) (n : Nat) (l : List Nat) : Prop :=
  ∃ (r : Int) (i' : Nat), bx = [cuC b i' (lcM h)] ∧ x = .d (pI r) ∧ 0 ≤ r ∧ r < m ∧ i' ≤ b.length ∧ (i < b.length → i' = i + 1) ∧ (i = b.length → i' = i ∧ r = (lcX (lcM h)).tmod m) ∧ n = nt ∧ l = live
theorem below_g {b : List UInt8} (hb : b.length ≤ 2147483647) {i : Nat} (hi : i ≤ b.length) (h : Int) {m : Int} (hm : 1 ≤ m ∧ m ≤ 256) (nt : Nat) (live : List Nat) :
    FnG (env T hT) 24 [.ref 0 0, .d (pI m)] [cuC b i h] nt live (BlR b i h m nt live) := by
  refine fng_of (look_env lk_s_l01Below) (by show 2 ≤ 37; decide) fun B hB => ?_
  unfold m_s_l01Below
  refine mw_seq (mw_ops ?_)
  repeat' (first | refine po_mv rfl (by conv => lhs; whnf) ?_ | refine po_s rfl rfl rfl ?_ | refine po_box rfl ?_ | refine po_zero ?_ | refine po_nil ?_)
  refine mw_seq (mw_seq (mw_ops ?_))
  first | refine po_mv rfl (by conv => lhs; whnf) ?_ | refine po_s rfl rfl rfl ?_
  refine po_no rfl rfl (decide_eq_false (by omega)) ?_
  refine po_nil ?_
  refine mw_cond (t := false) rfl (fun h => absurd h (by decide)) (fun _ => ?_)
  refine mw_skip ?_
  refine mw_seq (mw_seq (mw_ops ?_))
  first | refine po_mv rfl (by conv => lhs; whnf) ?_ | refine po_s rfl rfl rfl ?_
  refine po_yes rfl rfl (decide_eq_true (by omega)) ?_
  refine po_nil ?_
  refine mw_cond (t := true) rfl (fun _ => ?_) (fun h => absurd h (by decide))
  refine mw_seq (mw_ops ?_)
  first | refine po_mv rfl (by conv => lhs; whnf) ?_ | refine po_s rfl rfl rfl ?_
  refine po_g rfl (byte_g (T := T) (hT := hT) hb hi h nt live) ?_
  rintro x bx n l ⟨r, i', rfl, rfl, h0, h1, hi', e1, e2, rfl, rfl⟩
  first | refine po_mv rfl (by conv => lhs; whnf) ?_ | refine po_s rfl rfl rfl ?_
  refine po_remB rfl rfl rfl h0 (by omega) fun q hq q0 q1 => ?_
  repeat' (first | refine po_mv rfl (by conv => lhs; whnf) ?_ | refine po_s rfl rfl rfl ?_ | refine po_box rfl ?_ | refine po_zero ?_ | refine po_nil ?_)
  exact mw_ret ⟨.inr rfl, [.d (pI q)], rfl, q, i', rfl, rfl, q0, q1, hi', e1, fun he => ⟨(e2 he).1, by rw [hq, (e2 he).2]⟩, rfl, rfl⟩
theorem below_drw {b : List UInt8} (hb : b.length ≤ 2147483647) (m : Int) : Drw (env T hT) b 24 [.d (pI m)] (QN 0 (max (m - 1) 0)) := by
  rintro c nt live hc hn
  have hB := byte_drw (T := T) (hT := hT) hb
  refine fng_of (R := fun x bx n l => ∃ c' rest, bx = c' :: rest ∧ x.lw 0 ∧ lwL 0 c' ∧ Cu b c' ∧ QN 0 (max (m - 1) 0) nt live x n l) (look_env lk_s_l01Below) (by show 2 ≤ 37; decide) fun B hB' => ?_
  unfold m_s_l01Below
  refine mw_seq (mw_ops ?_)
  repeat' (first | refine po_mv rfl (by conv => lhs; whnf) ?_ | refine po_s rfl rfl rfl ?_ | refine po_box rfl ?_ | refine po_zero ?_ | refine po_nil ?_)
  refine mw_seq (mw_seq (mw_ops ?_))
  first | refine po_mv rfl (by conv => lhs; whnf) ?_ | refine po_s rfl rfl rfl ?_
  by_cases hm0 : m ≤ 0
  · refine po_yes rfl rfl (decide_eq_true (by omega)) ?_
    refine po_nil ?_
    refine mw_cond (t := true) rfl (fun _ => ?_) (fun h => absurd h (by decide))
    refine mw_seq (mw_ops ?_)
    repeat' (first | refine po_mv rfl (by conv => lhs; whnf) ?_ | refine po_s rfl rfl rfl ?_ | refine po_box rfl ?_ | refine po_zero ?_ | refine po_nil ?_)
    exact mw_ret ⟨.inr rfl, [.d (pI 0)], rfl, c, [], rfl, trivial, hc.lw, hc, 0, rfl, by omega, by omega, NR.refl _ _⟩
  refine po_no rfl rfl (decide_eq_false (by omega)) ?_
  refine po_nil ?_
  refine mw_cond (t := false) rfl (fun h => absurd h (by decide)) (fun _ => ?_)
  refine mw_skip ?_
  refine mw_seq (mw_seq (mw_ops ?_))
  first | refine po_mv rfl (by conv => lhs; whnf) ?_ | refine po_s rfl rfl rfl ?_
  by_cases hm1 : m ≤ 256
  · refine po_yes rfl rfl (decide_eq_true (by omega)) ?_
    refine po_nil ?_
    refine mw_cond (t := true) rfl (fun _ => ?_) (fun h => absurd h (by decide))
    refine mw_seq (mw_ops ?_)
    first | refine po_mv rfl (by conv => lhs; whnf) ?_ | refine po_s rfl rfl rfl ?_
    refine po_g rfl (hB.use trivial hc hn (p := 0) rfl) ?_
    rintro x bx n l ⟨c', rfl, hc', r, rfl, h0, h1, hN⟩
    first | refine po_mv rfl (by conv => lhs; whnf) ?_ | refine po_s rfl rfl rfl ?_
    refine po_remB rfl rfl rfl h0 (by omega) fun q hq q0 q1 => ?_
    repeat' (first | refine po_mv rfl (by conv => lhs; whnf) ?_ | refine po_s rfl rfl rfl ?_ | refine po_box rfl ?_ | refine po_zero ?_ | refine po_nil ?_)
    exact mw_ret ⟨.inr rfl, [.d (pI q)], rfl, c', [], rfl, trivial, hc'.lw, hc', q, rfl, q0, by omega, hN⟩
  refine po_no rfl rfl (decide_eq_false (by omega)) ?_
  refine po_nil ?_
  refine mw_cond (t := false) rfl (fun h => absurd h (by decide)) (fun _ => ?_)
  refine mw_skip ?_
  refine mw_seq (mw_ops ?_)
  first | refine po_mv rfl (by conv => lhs; whnf) ?_ | refine po_s rfl rfl rfl ?_
  refine po_g rfl (hB.use trivial hc hn (p := 0) rfl) ?_
  rintro x bx n1 l1 ⟨c1, rfl, hc1, r1, rfl, h10, h11, hN1⟩
  repeat' (first | refine po_mv rfl (by conv => lhs; whnf) ?_ | refine po_s rfl rfl rfl ?_ | refine po_box rfl ?_ | refine po_zero ?_ | refine po_nil ?_)
  refine mw_seq (mw_ops ?_)
  first | refine po_mv rfl (by conv => lhs; whnf) ?_ | refine po_s rfl rfl rfl ?_
  refine po_g rfl (hB.use trivial hc1 (by have := hN1.le; omega) (p := 0) rfl) ?_
  rintro x bx n2 l2 ⟨c2, rfl, hc2, r2, rfl, h20, h21, hN2⟩
  repeat' (first | refine po_mv rfl (by conv => lhs; whnf) ?_ | refine po_s rfl rfl rfl ?_ | refine po_box rfl ?_ | refine po_zero ?_ | refine po_nil ?_)
  refine mw_seq (mw_ops ?_)
  first | refine po_mv rfl (by conv => lhs; whnf) ?_ | refine po_s rfl rfl rfl ?_
  refine po_g rfl (hB.use trivial hc2 (by have := hN1.le; have := hN2.le; omega) (p := 0) rfl) ?_
  rintro x bx n3 l3 ⟨c3, rfl, hc3, r3, rfl, h30, h31, hN3⟩
  repeat' (first | refine po_mv rfl (by conv => lhs; whnf) ?_ | refine po_s rfl rfl rfl ?_ | refine po_box rfl ?_ | refine po_zero ?_ | refine po_nil ?_)
  refine mw_seq (mw_ops ?_)
  first | refine po_mv rfl (by conv => lhs; whnf) ?_ | refine po_s rfl rfl rfl ?_
  refine po_g rfl (hB.use trivial hc3 (by have := hN1.le; have := hN2.le; have := hN3.le; omega) (p := 0) rfl) ?_
  rintro x bx n4 l4 ⟨c4, rfl, hc4, r4, rfl, h40, h41, hN4⟩
  repeat' (first | refine po_mv rfl (by conv => lhs; whnf) ?_ | refine po_s rfl rfl rfl ?_ | refine po_box rfl ?_ | refine po_zero ?_ | refine po_nil ?_)
  refine mw_seq (mw_ops ?_)
  first | refine po_mv rfl (by conv => lhs; whnf) ?_ | refine po_s rfl rfl rfl ?_
  refine po_mul (n := r1 * 16777216) rfl rfl rfl rfl (by omega) ?_
  first | refine po_mv rfl (by conv => lhs; whnf) ?_ | refine po_s rfl rfl rfl ?_
  refine po_mul (n := r2 * 65536) rfl rfl rfl rfl (by omega) ?_
  refine po_add (n := r1 * 16777216 + r2 * 65536) rfl rfl rfl rfl (by omega) ?_
  first | refine po_mv rfl (by conv => lhs; whnf) ?_ | refine po_s rfl rfl rfl ?_
  refine po_mul (n := r3 * 256) rfl rfl rfl rfl (by omega) ?_
  refine po_add (n := r1 * 16777216 + r2 * 65536 + r3 * 256) rfl rfl rfl rfl (by omega) ?_
  first | refine po_mv rfl (by conv => lhs; whnf) ?_ | refine po_s rfl rfl rfl ?_
  refine po_add (n := r1 * 16777216 + r2 * 65536 + r3 * 256 + r4) rfl rfl rfl rfl (by omega) ?_
  first | refine po_mv rfl (by conv => lhs; whnf) ?_ | refine po_s rfl rfl rfl ?_
  refine po_remB rfl rfl rfl (by omega) (by omega) fun q hq q0 q1 => ?_
  repeat' (first | refine po_mv rfl (by conv => lhs; whnf) ?_ | refine po_s rfl rfl rfl ?_ | refine po_box rfl ?_ | refine po_zero ?_ | refine po_nil ?_)
  exact mw_ret ⟨.inr rfl, [.d (pI q)], rfl, c4, [], rfl, trivial, hc4.lw, hc4, q, rfl, q0, by omega, ((hN1.pass hN2).pass hN3).pass hN4⟩
theorem once_drw {b : List UInt8} (hb : b.length ≤ 2147483647) (m : Int) : Drw (env T hT) b 23 [.d (pI m)] QB := by
  rintro c nt live hc hn
  refine fng_of (R := fun x bx n l => ∃ c' rest, bx = c' :: rest ∧ x.lw 0 ∧ lwL 0 c' ∧ Cu b c' ∧ QB nt live x n l) (look_env lk_s_l01Once) (by show 2 ≤ 9; decide) fun B hB' => ?_
  unfold m_s_l01Once
  refine mw_seq (mw_ops ?_)
  repeat' (first | refine po_mv rfl (by conv => lhs; whnf) ?_ | refine po_s rfl rfl rfl ?_ | refine po_box rfl ?_ | refine po_zero ?_ | refine po_nil ?_)
  refine mw_seq (mw_ops ?_)
  iterate 2 (first | refine po_mv rfl (by conv => lhs; whnf) ?_ | refine po_s rfl rfl rfl ?_)
  refine po_g rfl ((below_drw (T := T) (hT := hT) hb m).use ⟨trivial, trivial⟩ hc hn (p := 0) rfl) ?_
  rintro x bx n l ⟨c', rfl, hc', r, rfl, h0, h1, hN⟩
  refine po_b rfl rfl (fun q hq => ?_)
  repeat' (first | refine po_mv rfl (by conv => lhs; whnf) ?_ | refine po_s rfl rfl rfl ?_ | refine po_box rfl ?_ | refine po_zero ?_ | refine po_nil ?_)
  exact mw_ret ⟨.inr rfl, [.d (pB q)], rfl, c', [], rfl, trivial, hc'.lw, hc', q, rfl, hN⟩
/-- lists of texts, of numbers -/
def allS (p : List UInt8 → Bool) : List (List PC) → Bool
  | [] => true
  | [.v (.string s)] :: r => p s.data.toList && allS p r
  | _ :: _ => false
def allI (p : Int → Bool) : List (List PC) → Bool
  | [] => true
  | [.v (.int .i64 s)] :: r => p s && allI p r
  | _ :: _ => false
theorem allS_at {p : List UInt8 → Bool} : ∀ {es : List (List PC)} {k : Nat}, allS p es = true → (hk : k < es.length) → ∃ s, es[k] = [pS s] ∧ p s = true
  | [.v (.string s)] :: r, 0, h, _ => by
    simp only [allS, Bool.and_eq_true] at h
    exact ⟨s.data.toList, by simp [pS], h.1⟩
  | [.v (.string s)] :: r, k + 1, h, hk => by
    simp only [allS, Bool.and_eq_true] at h
    exact allS_at (es := r) (k := k) h.2 (by simpa using hk)
theorem allI_at {p : Int → Bool} : ∀ {es : List (List PC)} {k : Nat}, allI p es = true → (hk : k < es.length) → ∃ s, es[k] = [pI s] ∧ p s = true
  | [.v (.int .i64 s)] :: r, 0, h, _ => by
    simp only [allI, Bool.and_eq_true] at h
    exact ⟨s, rfl, h.1⟩
  | [.v (.int .i64 s)] :: r, k + 1, h, hk => by
    simp only [allI, Bool.and_eq_true] at h
    exact allI_at (es := r) (k := k) h.2 (by simpa using hk)
theorem allS_lw {p : List UInt8 → Bool} : ∀ {es : List (List PC)}, allS p es = true → lwLL 0 es
  | [], _ => by simp only [lwLL]
  | [.v (.string s)] :: r, h => by
    simp only [allS, Bool.and_eq_true] at h
    simp only [lwLL, lwL, PC.lw, and_true, true_and]; exact allS_lw h.2
theorem allI_lw {p : Int → Bool} : ∀ {es : List (List PC)}, allI p es = true → lwLL 0 es
  | [], _ => by simp only [lwLL]
  | [.v (.int .i64 s)] :: r, h => by
    simp only [allI, Bool.and_eq_true] at h
    simp only [lwLL, lwL, PC.lw, and_true, true_and]; exact allI_lw h.2
theorem pick_drw {b : List UInt8} (hb : b.length ≤ 2147483647) (p : List UInt8 → Bool) {t : Nat} {es : List (List PC)} (hp : allS p es = true) (h0 : 0 < es.length) : Drw (env T hT) b 41 [.d (.sl t es)] (QT fun s => p s = true) := by
  rintro c nt live hc hn
  refine fng_of (R := fun x bx n l => ∃ c' rest, bx = c' :: rest ∧ x.lw 0 ∧ lwL 0 c' ∧ Cu b c' ∧ QT (fun s => p s = true) nt live x n l) (look_env lk_s_l01Pick) (by show 2 ≤ 12; decide) fun B hB' => ?_
  unfold m_s_l01Pick
  refine mw_seq (mw_ops ?_)
  repeat' (first | refine po_mv rfl (by conv => lhs; whnf) ?_ | refine po_s rfl rfl rfl ?_ | refine po_box rfl ?_ | refine po_zero ?_ | refine po_nil ?_)
  refine mw_seq (mw_ops ?_)
  iterate 3 (first | refine po_mv rfl (by conv => lhs; whnf) ?_ | refine po_s rfl rfl rfl ?_)
  refine po_len (n := es.length) rfl rfl rfl ?_
  refine po_g rfl ((below_drw (T := T) (hT := hT) hb (es.length : Int)).use ⟨trivial, trivial⟩ hc hn (p := 0) rfl) ?_
  rintro x bx n l ⟨c', rfl, hc', r, rfl, r0, r1, hN⟩
  obtain ⟨k, rfl⟩ : ∃ k : Nat, r = k := ⟨r.toNat, by omega⟩
  have hk : k < es.length := by omega
  obtain ⟨s, hs, hps⟩ := allS_at hp hk
  refine po_ix (es := es) (e := [pS s]) rfl rfl rfl ⟨r0, by rw [Int.toNat_natCast, List.getElem?_eq_getElem hk, hs]⟩ rfl ?_
  repeat' (first | refine po_mv rfl (by conv => lhs; whnf) ?_ | refine po_s rfl rfl rfl ?_ | refine po_box rfl ?_ | refine po_zero ?_ | refine po_nil ?_)
  exact mw_ret ⟨.inr rfl, [.d (pS s)], rfl, c', [], rfl, trivial, hc'.lw, hc', s, rfl, hps, hN⟩
/-- a number of a list -/
def QM (p : Int → Bool) : Nat → List Nat → PV → Nat → List Nat → Prop := fun nt live x n l => ∃ r : Int, x = .d (pI r) ∧ p r = true ∧ NR nt live n l []
theorem pickI_drw {b : List UInt8} (hb : b.length ≤ 2147483647) (p : Int → Bool) {t : Nat} {es : List (List PC)} (hp : allI p es = true) (h0 : 0 < es.length) : Drw (env T hT) b 25 [.d (.sl t es)] (QM p) := by
  rintro c nt live hc hn
  refine fng_of (R := fun x bx n l => ∃ c' rest, bx = c' :: rest ∧ x.lw 0 ∧ lwL 0 c' ∧ Cu b c' ∧ QM p nt live x n l) (look_env lk_s_l01PickInt) (by show 2 ≤ 12; decide) fun B hB' => ?_
  unfold m_s_l01PickInt
  refine mw_seq (mw_ops ?_)
  repeat' (first | refine po_mv rfl (by conv => lhs; whnf) ?_ | refine po_s rfl rfl rfl ?_ | refine po_box rfl ?_ | refine po_zero ?_ | refine po_nil ?_)
  refine mw_seq (mw_ops ?_)
  iterate 3 (first | refine po_mv rfl (by conv => lhs; whnf) ?_ | refine po_s rfl rfl rfl ?_)
  refine po_len (n := es.length) rfl rfl rfl ?_
  refine po_g rfl ((below_drw (T := T) (hT := hT) hb (es.length : Int)).use ⟨trivial, trivial⟩ hc hn (p := 0) rfl) ?_
  rintro x bx n l ⟨c', rfl, hc', r, rfl, r0, r1, hN⟩
  obtain ⟨k, rfl⟩ : ∃ k : Nat, r = k := ⟨r.toNat, by omega⟩
  have hk : k < es.length := by omega
  obtain ⟨s, hs, hps⟩ := allI_at hp hk
  refine po_ix (es := es) (e := [pI s]) rfl rfl rfl ⟨r0, by rw [Int.toNat_natCast, List.getElem?_eq_getElem hk, hs]⟩ rfl ?_
  repeat' (first | refine po_mv rfl (by conv => lhs; whnf) ?_ | refine po_s rfl rfl rfl ?_ | refine po_box rfl ?_ | refine po_zero ?_ | refine po_nil ?_)
  exact mw_ret ⟨.inr rfl, [.d (pI s)], rfl, c', [], rfl, trivial, hc'.lw, hc', s, rfl, hps, hN⟩
/-- a new cursor -/
def NewI (b : List UInt8) (m : Nat) (st : St) : Prop := ∃ (i : Nat) (h : Int), i ≤ b.length ∧ m = b.length - i ∧ i64ok h ∧ has st.tm [(0, .d (.sl 0 (pcB b))), (3, .d (pI h)), (4, .d (pI i))] ∧ st.bx = []
theorem new_g {b : List UInt8} (hb : b.length ≤ 2147483647) (nt : Nat) (live : List Nat) : FnG (env T hT) 12 [.d (.sl 0 (pcB b))] [] nt live (fun x bx n l => ∃ c, x = .ref 0 0 ∧ bx = [c] ∧ Cu b c ∧ n = nt ∧ l = live) := by
  refine fng_of (look_env lk_s_l01New) (by show 1 ≤ 32; decide) fun B hB => ?_
  unfold m_s_l01New
  refine mw_seq (mw_ops ?_)
  repeat' (first | refine po_mv rfl (by conv => lhs; whnf) ?_ | refine po_s rfl rfl rfl ?_ | refine po_box rfl ?_ | refine po_zero ?_ | refine po_nil ?_)
  refine mw_seq (mw_ops ?_)
  first | refine po_mv rfl (by conv => lhs; whnf) ?_ | refine po_s rfl rfl rfl ?_
  refine po_len (n := b.length) rfl rfl (pcB_len b) ?_
  refine po_add (n := 421421 + (b.length : Int)) rfl rfl rfl rfl (by omega) ?_
  repeat' (first | refine po_mv rfl (by conv => lhs; whnf) ?_ | refine po_s rfl rfl rfl ?_ | refine po_box rfl ?_ | refine po_zero ?_ | refine po_nil ?_)
  refine mw_cut (fun st => ∃ h, i64ok h ∧ has st.tm [(0, .d (.sl 0 (pcB b))), (3, .d (pI h))] ∧ st.bx = [] ∧ st.nt = nt ∧ st.live = live) ?_ ?_
  · refine mw_seq (mw_ops ?_)
    repeat' (first | refine po_mv rfl (by conv => lhs; whnf) ?_ | refine po_s rfl rfl rfl ?_ | refine po_box rfl ?_ | refine po_zero ?_ | refine po_nil ?_)
    refine mw_block ?_
    refine mw_while (fun m st => NewI b m st ∧ st.nt = nt ∧ st.live = live) b.length ⟨⟨0, 421421 + (b.length : Int), Nat.zero_le _, rfl, by unfold i64ok; omega, ⟨rfl, rfl, rfl, trivial⟩, rfl⟩, rfl, rfl⟩ ?_
    rintro m tm bx n l ⟨⟨i, h, hi, rfl, hh, ht, hbx⟩, hn, hl⟩
    obtain ⟨tm0, rfl⟩ := has_ups ht
    simp only at hbx hn hl; subst hbx; subst hn; subst hl
    clear ht
    refine mw_seq (mw_cut (fun st => has st.tm [(0, .d (.sl 0 (pcB b))), (3, .d (pI h)), (4, .d (pI i)), (15, .d (pB (decide (i < b.length ∧ i < 4000))))] ∧ st.bx = [] ∧ st.nt = n ∧ st.live = l) ?_ ?_)
    · refine mw_ops ?_
      iterate 2 (first | refine po_mv rfl (by conv => lhs; whnf) ?_ | refine po_s rfl rfl rfl ?_)
      refine po_len (n := b.length) rfl rfl (pcB_len b) ?_
      by_cases c1 : i < b.length
      · refine po_yes rfl rfl (decide_eq_true (by omega)) ?_
        iterate 2 (first | refine po_mv rfl (by conv => lhs; whnf) ?_ | refine po_s rfl rfl rfl ?_)
        by_cases c2 : i < 4000
        · refine po_yes rfl rfl (decide_eq_true (by omega)) ?_
          repeat' (first | refine po_mv rfl (by conv => lhs; whnf) ?_ | refine po_s rfl rfl rfl ?_ | refine po_box rfl ?_ | refine po_zero ?_ | refine po_nil ?_)
          exact ⟨⟨rfl, rfl, rfl, by rw [decide_eq_true ⟨c1, c2⟩]; rfl, trivial⟩, rfl, rfl, rfl⟩
        · refine po_no rfl rfl (decide_eq_false (by omega)) ?_
          repeat' (first | refine po_mv rfl (by conv => lhs; whnf) ?_ | refine po_s rfl rfl rfl ?_ | refine po_box rfl ?_ | refine po_zero ?_ | refine po_nil ?_)
          exact ⟨⟨rfl, rfl, rfl, by rw [decide_eq_false (by omega)]; rfl, trivial⟩, rfl, rfl, rfl⟩
      · refine po_no rfl rfl (decide_eq_false (by omega)) ?_
        first | refine po_mv rfl (by conv => lhs; whnf) ?_ | refine po_s rfl rfl rfl ?_
        iterate 2 (refine po_skip rfl ?_)
        repeat' (first | refine po_mv rfl (by conv => lhs; whnf) ?_ | refine po_s rfl rfl rfl ?_ | refine po_box rfl ?_ | refine po_zero ?_ | refine po_nil ?_)
        exact ⟨⟨rfl, rfl, rfl, by rw [decide_eq_false (by omega)]; rfl, trivial⟩, rfl, rfl, rfl⟩
    rintro tm bx n1 l1 ⟨ht, hbx, hn, hl⟩
    obtain ⟨tm1, rfl⟩ := has_ups ht
    simp only at hbx hn hl; subst hbx; subst hn; subst hl
    clear ht tm0
    refine mw_cd0 (p := i < b.length ∧ i < 4000) rfl (fun hc => ?_) (fun hc => ?_)
    · have hg : b[i]? = some b[i] := List.getElem?_eq_getElem hc.1
      have hbt := (b[i]).toNat_lt
      refine mw_skip ?_
      refine mw_seq (mw_block (mw_ops ?_))
      first | refine po_mv rfl (by conv => lhs; whnf) ?_ | refine po_s rfl rfl rfl ?_
      refine po_q rfl rfl ?_
      iterate 2 (first | refine po_mv rfl (by conv => lhs; whnf) ?_ | refine po_s rfl rfl rfl ?_)
      refine po_ix (es := pcB b) (e := [.v (.int .u8 (b[i]).toNat)]) rfl rfl rfl ⟨by omega, by rw [Int.toNat_natCast]; exact pcB_get hg⟩ rfl ?_
      first | refine po_mv rfl (by conv => lhs; whnf) ?_ | refine po_s rfl rfl rfl ?_
      refine po_cv (n := ((b[i]).toNat : Int)) rfl rfl (by rw [IntKind.wrap_i64]; omega) ?_
      refine po_q rfl rfl ?_
      refine po_q rfl rfl ?_
      refine po_q (v := .d (pI (andR (IntKind.i64.wrap (IntKind.i64.wrap (IntKind.i64.wrap (h * 131) + ((b[i]).toNat : Int)) + 7)) 1073741823))) rfl rfl ?_
      obtain ⟨hw0, hw1⟩ := andR_small (m := 1073741823) (IntKind.i64.wrap (IntKind.i64.wrap (IntKind.i64.wrap (h * 131) + ((b[i]).toNat : Int)) + 7)) (by decide)
      generalize andR (IntKind.i64.wrap (IntKind.i64.wrap (IntKind.i64.wrap (h * 131) + ((b[i]).toNat : Int)) + 7)) 1073741823 = h2 at hw0 hw1
      repeat' (first | refine po_mv rfl (by conv => lhs; whnf) ?_ | refine po_s rfl rfl rfl ?_ | refine po_box rfl ?_ | refine po_zero ?_ | refine po_nil ?_)
      refine mw_ops ?_
      first | refine po_mv rfl (by conv => lhs; whnf) ?_ | refine po_s rfl rfl rfl ?_
      refine po_add (n := ((i + 1 : Nat) : Int)) rfl rfl rfl (by omega) (by omega) ?_
      repeat' (first | refine po_mv rfl (by conv => lhs; whnf) ?_ | refine po_s rfl rfl rfl ?_ | refine po_box rfl ?_ | refine po_zero ?_ | refine po_nil ?_)
      exact ⟨_, by show b.length - (i + 1) < b.length - i; omega, ⟨i + 1, h2, by omega, rfl, by unfold i64ok; omega, ⟨rfl, rfl, rfl, trivial⟩, rfl⟩, rfl, rfl⟩
    · refine mw_exit ?_
      exact ⟨h, hh, ⟨rfl, rfl, trivial⟩, rfl, rfl, rfl⟩
  rintro tm bx n l ⟨h, hh, ht, hbx, hn, hl⟩
  obtain ⟨tm0, rfl⟩ := has_ups ht
  simp only at hbx hn hl; subst hbx; subst hn; subst hl
  clear ht
  refine mw_seq (mw_ops ?_)
  iterate 2 (first | refine po_mv rfl (by conv => lhs; whnf) ?_ | refine po_s rfl rfl rfl ?_)
  refine po_s (v := .ag (cuC b 0 h)) rfl rfl rfl ?_
  refine po_box (cs := cuC b 0 h) rfl ?_
  repeat' (first | refine po_mv rfl (by conv => lhs; whnf) ?_ | refine po_s rfl rfl rfl ?_ | refine po_box rfl ?_ | refine po_zero ?_ | refine po_nil ?_)
  exact mw_ret ⟨.inr rfl, [.ref 0 0], rfl, cuC b 0 h, rfl, rfl, ⟨0, h, Nat.zero_le _, hh, rfl⟩, rfl, rfl⟩
end Go.Proofs.YthngfihpnfoppaaDoor

namespace Go.Proofs.YthngfihpnfoppaaDoor
open Go.RowKit
variable {T : World → Prop} {hT : Low ngl T}
attribute [local irreducible] po mw pt

theorem NR.up {nt n : Nat} {live l cs : _} (h : NR nt live n l cs) : NR nt live (n + 1) (n :: l) cs := h.mono (Nat.le_succ _) fun _t ht _ _ => List.mem_cons_of_mem _ ht
theorem NR.n2 {nt n : Nat} {live l cs : _} (h : NR nt live n l cs) (h2 : 2 ≤ nt) : 2 ≤ n := Nat.le_trans h2 h.le
def SmI (b : List UInt8) (nt : Nat) (live : List Nat) (m k : Nat) (st : St) : Prop := ∃ (i : Nat) (s : List UInt8) (c : List PC), i ≤ m ∧ k = m - i ∧ s.length ≤ 4 * i ∧ Cu b c ∧ has st.tm [(0, .ref 0 0), (3, .d (pS s)), (4, .d (pI m)), (5, .d (pI i))] ∧ st.bx = [c] ∧ NR nt live st.nt st.live []
theorem some_drw {b : List UInt8} (hb : b.length ≤ 2147483647) : Drw (env T hT) b 42 [] (QT fun s => s.length ≤ 16) := by
  rintro c nt live hc hn
  refine fng_of (R := fun x bx n l => ∃ c' rest, bx = c' :: rest ∧ x.lw 0 ∧ lwL 0 c' ∧ Cu b c' ∧ QT (fun s => s.length ≤ 16) nt live x n l) (look_env lk_s_l01Some) (by show 1 ≤ 19; decide) fun B hB' => ?_
  unfold m_s_l01Some
  refine mw_seq (mw_ops ?_)
  repeat' (first | refine po_mv rfl (by conv => lhs; whnf) ?_ | refine po_s rfl rfl rfl ?_ | refine po_box rfl ?_ | refine po_zero ?_ | refine po_nil ?_)
  refine mw_seq (mw_ops ?_)
  repeat' (first | refine po_mv rfl (by conv => lhs; whnf) ?_ | refine po_s rfl rfl rfl ?_ | refine po_box rfl ?_ | refine po_zero ?_ | refine po_nil ?_)
  refine mw_seq (mw_ops ?_)
  first | refine po_mv rfl (by conv => lhs; whnf) ?_ | refine po_s rfl rfl rfl ?_
  refine po_g rfl ((below_drw (T := T) (hT := hT) hb 5).use ⟨trivial, trivial⟩ hc hn (p := 0) rfl) ?_
  rintro x bx n1 l1 ⟨c1, rfl, hc1, r, rfl, r0, r1, hN⟩
  obtain ⟨m, rfl⟩ : ∃ m : Nat, r = m := ⟨r.toNat, by omega⟩
  have hm : m ≤ 4 := by omega
  repeat' (first | refine po_mv rfl (by conv => lhs; whnf) ?_ | refine po_s rfl rfl rfl ?_ | refine po_box rfl ?_ | refine po_zero ?_ | refine po_nil ?_)
  refine mw_cut (fun st => ∃ (s : List UInt8) (c : List PC), s.length ≤ 16 ∧ Cu b c ∧ has st.tm [(3, .d (pS s))] ∧ st.bx = [c] ∧ NR nt live st.nt st.live []) ?_ ?_
  · refine mw_seq (mw_ops ?_)
    repeat' (first | refine po_mv rfl (by conv => lhs; whnf) ?_ | refine po_s rfl rfl rfl ?_ | refine po_box rfl ?_ | refine po_zero ?_ | refine po_nil ?_)
    refine mw_block ?_
    refine mw_while (SmI b nt live m) m ⟨0, [], c1, Nat.zero_le _, rfl, Nat.le_refl _, hc1, ⟨rfl, rfl, rfl, rfl, trivial⟩, rfl, hN⟩ ?_
    rintro k tm bx n l ⟨i, s, c2, hi, rfl, hs, hc2, ht, hbx, hN2⟩
    obtain ⟨tm0, rfl⟩ := has_ups ht
    simp only at hbx hN2; subst hbx
    clear ht
    refine mw_seq (mw_seq (mw_ops ?_))
    iterate 2 (first | refine po_mv rfl (by conv => lhs; whnf) ?_ | refine po_s rfl rfl rfl ?_)
    refine po_b rfl rfl (fun q hq => ?_)
    refine po_nil ?_
    refine mw_cd (p := (i : Int) < m) hq rfl (fun h _ => ?_) (fun h _ => ?_)
    · refine mw_skip ?_
      refine mw_seq (mw_block (mw_ops ?_))
      iterate 2 (first | refine po_mv rfl (by conv => lhs; whnf) ?_ | refine po_s rfl rfl rfl ?_)
      refine po_lit rfl ?_
      refine po_g rfl ((pick_drw (T := T) (hT := hT) hb (fun s => decide (s.length ≤ 4)) rfl (by show 0 < 13; decide)).use ⟨by simp only [PV.lw, PC.lw]; exact allS_lw (p := fun s => decide (s.length ≤ 4)) rfl, trivial⟩ hc2 (by have := hN2.n2 hn; omega) (p := 0) rfl) ?_
      rintro x bx n3 l3 ⟨c3, rfl, hc3, q2, rfl, hq2, hN3⟩
      have hq2 : q2.length ≤ 4 := of_decide_eq_true hq2
      refine po_cat rfl rfl rfl (by omega) ?_
      repeat' (first | refine po_mv rfl (by conv => lhs; whnf) ?_ | refine po_s rfl rfl rfl ?_ | refine po_box rfl ?_ | refine po_zero ?_ | refine po_nil ?_)
      refine mw_ops ?_
      first | refine po_mv rfl (by conv => lhs; whnf) ?_ | refine po_s rfl rfl rfl ?_
      refine po_add (n := ((i + 1 : Nat) : Int)) rfl rfl rfl (by omega) (by omega) ?_
      repeat' (first | refine po_mv rfl (by conv => lhs; whnf) ?_ | refine po_s rfl rfl rfl ?_ | refine po_box rfl ?_ | refine po_zero ?_ | refine po_nil ?_)
      exact ⟨_, by show m - (i + 1) < m - i; omega, i + 1, s ++ q2, c3, by omega, rfl, by rw [List.length_append]; omega, hc3, ⟨rfl, rfl, rfl, rfl, trivial⟩, rfl, hN2.up.pass hN3⟩
    · refine mw_exit ?_
      exact ⟨s, c2, by omega, hc2, ⟨rfl, trivial⟩, rfl, hN2⟩
  rintro tm bx n l ⟨s, c2, hs, hc2, ht, hbx, hN2⟩
  obtain ⟨tm0, rfl⟩ := has_ups ht
  simp only at hbx hN2; subst hbx
  clear ht
  refine mw_seq (mw_ops ?_)
  repeat' (first | refine po_mv rfl (by conv => lhs; whnf) ?_ | refine po_s rfl rfl rfl ?_ | refine po_box rfl ?_ | refine po_zero ?_ | refine po_nil ?_)
  exact mw_ret ⟨.inr rfl, [.d (pS s)], rfl, c2, [], rfl, trivial, hc2.lw, hc2, s, rfl, hs, hN2⟩
end Go.Proofs.YthngfihpnfoppaaDoor

namespace Go.Proofs.YthngfihpnfoppaaDoor
open Go.RowKit

def lcI : Nat → Int → Int
  | 0, h => h
  | n + 1, h => lcI n (lcM h)
def lcU (h : Int) : Nat := (h % 18446744073709551616).toNat
theorem wrap_mod (z : Int) : IntKind.i64.wrap z % 18446744073709551616 = z % 18446744073709551616 := by
  rw [IntKind.wrap_i64]; omega
theorem lcM_mod (h : Int) : lcM h % 18446744073709551616 = (h * 6364136223846793005 + 1442695040888963407) % 18446744073709551616 := by
  unfold lcM
  rw [wrap_mod, Int.add_emod, wrap_mod, ← Int.add_emod]
theorem lcU_M (h : Int) : lcU (lcM h) = lgN (lcU h) % 18446744073709551616 := by
  unfold lcU
  rw [lcM_mod, Int.add_emod, Int.mul_emod, ← Int.add_emod]
  have h0 : 0 ≤ h % 18446744073709551616 := Int.emod_nonneg _ (by decide)
  obtain ⟨u, hu⟩ : ∃ u : Nat, h % 18446744073709551616 = u := ⟨(h % 18446744073709551616).toNat, by omega⟩
  rw [hu, Int.toNat_natCast]
  unfold lgN lgA lgC
  have e : (((u : Int) * (6364136223846793005 % 18446744073709551616) + 1442695040888963407) % 18446744073709551616) = ((6364136223846793005 * u + 1442695040888963407 : Nat) : Int) % 18446744073709551616 := by
    rw [show (6364136223846793005 : Int) % 18446744073709551616 = 6364136223846793005 from rfl]
    congr 1
    omega
  rw [e]
  generalize 6364136223846793005 * u + 1442695040888963407 = z
  omega
theorem lgI_modM (M : Nat) : ∀ (j x : Nat), lgI j (x % M) % M = lgI j x % M
  | 0, x => Nat.mod_mod x M
  | j + 1, x => by
    have e : lgN (x % M) % M = lgN x % M := by
      unfold lgN
      rw [Nat.add_mod, Nat.mul_mod, Nat.mod_mod, ← Nat.mul_mod, ← Nat.add_mod]
    have h1 := lgI_modM M j (lgN (x % M))
    have h2 := lgI_modM M j (lgN x)
    rw [e] at h1
    exact h1.symm.trans h2
theorem lgI_mod (j x : Nat) : lgI j (x % 18446744073709551616) % 18446744073709551616 = lgI j x % 18446744073709551616 := lgI_modM _ j x
theorem lcU_I : ∀ (j : Nat) (h : Int), lcU (lcI j h) = lgI j (lcU h) % 18446744073709551616
  | 0, h => by simp only [lcI, lgI]; unfold lcU; omega
  | j + 1, h => by
    have h1 := lcU_I j (lcM h)
    rw [lcU_M, lgI_mod] at h1
    exact h1
theorem lcI_ok : ∀ (j : Nat) {h : Int}, i64ok h → i64ok (lcI j h)
  | 0, _, h => h
  | j + 1, _, _ => lcI_ok j (lcM_ok _)
theorem lc_reach {h : Int} (hh : i64ok h) : ∃ j, j ≤ 18446744073709551616 ∧ lcI j h = 9 := by
  obtain ⟨j, hj, he⟩ := lg_reach (lcU h) 9 64
  refine ⟨j, Nat.le_of_lt hj, ?_⟩
  have h1 := lcU_I j h
  have h2 := lcI_ok j hh
  have he : lgI j (lcU h) % 18446744073709551616 = 9 := he
  rw [he] at h1
  unfold lcU at h1
  unfold i64ok at h2
  omega
/-- the next choice is of a letter -/
def Dfl (h : Int) : Prop := 3 ≤ (lcX (lcM h)).tmod 5
/-- at most so many rounds without one -/
def Prg : Nat → Int → Prop
  | 0, h => Dfl h
  | n + 1, h => Dfl h ∨ (Prg n (lcM h) ∧ Prg n (lcM (lcM h)) ∧ Prg n (lcM (lcM (lcM h))))
theorem Prg.mono : ∀ {n : Nat} {h : Int}, Prg n h → Prg (n + 1) h
  | 0, _, h => .inl h
  | n + 1, _, h => by
    rcases h with h | ⟨a, b, c⟩
    · exact .inl h
    · exact .inr ⟨Prg.mono a, Prg.mono b, Prg.mono c⟩
theorem Prg.dfl : ∀ {n : Nat} {h : Int}, Dfl h → Prg n h
  | 0, _, h => h
  | _ + 1, _, h => .inl h
theorem dfl9 : Dfl 9 ∧ Dfl (lcM 9) ∧ Dfl (lcM (lcM 9)) := by
  unfold Dfl; decide
theorem prg_of : ∀ (j : Nat) (h : Int), (lcI j h = 9 ∨ h = 9 ∨ h = lcM 9 ∨ h = lcM (lcM 9)) → Prg j h
  | j, h, .inr (.inl e) => by subst e; exact Prg.dfl dfl9.1
  | j, h, .inr (.inr (.inl e)) => by subst e; exact Prg.dfl dfl9.2.1
  | j, h, .inr (.inr (.inr e)) => by subst e; exact Prg.dfl dfl9.2.2
  | 0, h, .inl e => by have e : h = 9 := e; subst e; exact dfl9.1
  | 1, h, .inl e => by
    have e : lcM h = 9 := e
    exact .inr ⟨prg_of 0 _ (.inr (.inl e)), prg_of 0 _ (.inr (.inr (.inl (by rw [e])))), prg_of 0 _ (.inr (.inr (.inr (by rw [e]))))⟩
  | 2, h, .inl e => by
    have e : lcM (lcM h) = 9 := e
    exact .inr ⟨prg_of 1 _ (.inl e), prg_of 1 _ (.inr (.inl e)), prg_of 1 _ (.inr (.inr (.inl (by rw [e]))))⟩
  | j + 3, h, .inl e => by
    have e : lcI j (lcM (lcM (lcM h))) = 9 := e
    exact .inr ⟨prg_of (j + 2) _ (.inl e), (prg_of (j + 1) _ (.inl e)).mono, (prg_of j _ (.inl e)).mono.mono⟩
theorem prg_all {h : Int} (hh : i64ok h) : ∃ n, n ≤ 18446744073709551616 ∧ Prg n h := by
  obtain ⟨j, hj, e⟩ := lc_reach hh
  exact ⟨j, hj, prg_of j h (.inl e)⟩
end Go.Proofs.YthngfihpnfoppaaDoor

namespace Go.Proofs.YthngfihpnfoppaaDoor
open Go.RowKit
variable {T : World → Prop} {hT : Low ngl T}
attribute [local irreducible] po mw pt

theorem byteL_pcB : ∀ l : List UInt8, byteL (pcB l) = some l
  | [] => rfl
  | x :: l => by
    have := byteL_pcB l
    simp only [pcB, List.map_cons] at this ⊢
    simp only [byteL, this, Option.map_some, Int.toNat_natCast, UInt8.ofNat_toNat]
theorem pcB_app (a b : List UInt8) : pcB (a ++ b) = pcB a ++ pcB b := by simp [pcB]
theorem NR.byte {nt n t : Nat} {live l : List Nat} {out : List UInt8} (h2 : 2 ≤ nt) (ht : 2 ≤ t) (h : NR nt live n l [.sl t (pcB out)]) (x : UInt8) : NR nt live (n + 1 + 1) ((n + 1) :: (n :: l).filter (· != t)) [.sl (n + 1) (pcB (out ++ [x]))] := by
  have := NR.app (a := []) (b := []) (ds := [[.v (.int .u8 x.toNat)]]) h2 (.inr ht) (h.up.plain (ds := [] ++ .sl t (pcB out) :: [] ++ [[PC.v (.int .u8 x.toNat)]].flatten) (by
    have := h.own
    simp only [List.nil_append, List.cons_append, List.flatten_cons, List.flatten_nil, ownedL, Bool.and_true, PC.owned] at this ⊢
    exact this) (by simp [toksL, PC.toks]))
  rw [pcB_app]; exact this
theorem po_slx {E : Env} {d n : Nat} {x : X} {g : Option (Nat × Bool)} {lo hi : Option X} {c : List X} {r : List MOpr} {K : St → Prop} {tm : Nat → PV} {bx : List (List PC)} {nt : Nat} {live : List Nat} {t l h : Nat} {es rs : List (List PC)} (hg : gd g tm = some true) (hx : ev tm x = .d (.sl t es)) (hl : bound (ev tm) 0 lo = some l) (hh : bound (ev tm) es.length hi = some h) (hle : l ≤ h ∧ h ≤ es.length) (hw : ∀ e ∈ es, e.length = n) (hr : (es.drop l).take (h - l) = rs)
    (k : po E r K ⟨up d (.d (.sl 0 rs)) tm, bx, nt, live⟩) : po E (⟨some d, .slc n x lo hi, g, c⟩ :: r) K ⟨tm, bx, nt, live⟩ := by
  refine po_q hg ?_ k
  subst hr
  simp only [qf, hx, hl, hh]
  rw [if_pos ⟨hle.1, hle.2, hw⟩]
theorem NR.mem1 {nt n t : Nat} {live l : List Nat} {es : List (List PC)} (ht : 2 ≤ t) (h : NR nt live n l [.sl t es]) : t ∈ l := (h.mem t (by rw [toksL, toks_sl2 ht]; simp)).2.2
theorem lex1 {a a' n n' K : Nat} (h : a' < a) (hn : n' ≤ K) : a' * (K + 1) + n' < a * (K + 1) + n := by
  have := Nat.mul_le_mul_right (K + 1) (show a' + 1 ≤ a from h)
  rw [Nat.add_mul] at this; omega
theorem lex2 {D D' L i i' : Nat} (h : D' < D) (hi : L - i' ≤ L) : D' * (L + 1) + (L - i') < D * (L + 1) + (L - i) := by
  have := Nat.mul_le_mul_right (L + 1) (show D' + 1 ≤ D from h)
  rw [Nat.add_mul] at this; omega
def TxS (b : List UInt8) (N nt : Nat) (live : List Nat) (i : Nat) (h : Int) (out : List UInt8) (t : Nat) (st : St) : Prop :=
  has st.tm [(0, .ref 0 0), (1, .d (pI N)), (5, .d (.sl t (pcB out)))] ∧ st.bx = [cuC b i h] ∧ NR nt live st.nt st.live [.sl t (pcB out)] ∧ 2 ≤ t ∧ i ≤ b.length ∧ i64ok h ∧ out.length ≤ N + 20
def TxI (b : List UInt8) (N K nt : Nat) (live : List Nat) (m : Nat) (st : St) : Prop :=
  ∃ (i : Nat) (h : Int) (out : List UInt8) (t n : Nat), TxS b N nt live i h out t st ∧ n ≤ K ∧ (i = b.length → Prg n h) ∧ m = ((N - out.length) * (b.length + 1) + (b.length - i)) * (K + 1) + n
set_option maxHeartbeats 1000000 in
theorem text_drw {b : List UInt8} (hb : b.length ≤ 2147483647) (N : Nat) (hN : N ≤ 200) : Drw (env T hT) b 40 [.d (pI N)] (QT fun s => s.length = N) := by
  rintro c nt live ⟨i0, h0, hi0, hh0, rfl⟩ hn
  obtain ⟨K, hK⟩ : ∃ K, ∀ h, i64ok h → ∃ n, n ≤ K ∧ Prg n h := ⟨_, fun h hh => prg_all hh⟩
  have hBy := fun (i : Nat) (hi : i ≤ b.length) h nt live => byte_g (T := T) (hT := hT) hb hi h nt live
  have hBl := fun (i : Nat) (hi : i ≤ b.length) h m (hm : 1 ≤ m ∧ m ≤ 256) nt live => below_g (T := T) (hT := hT) hb hi h hm nt live
  refine fng_of (R := fun x bx n l => ∃ c' rest, bx = c' :: rest ∧ x.lw 0 ∧ lwL 0 c' ∧ Cu b c' ∧ QT (fun s => s.length = N) nt live x n l) (look_env lk_s_l01Text) (by show 2 ≤ 88; decide) fun B hB' => ?_
  unfold m_s_l01Text
  refine mw_seq (mw_ops ?_)
  repeat' (first | refine po_mv rfl (by conv => lhs; whnf) ?_ | refine po_s rfl rfl rfl ?_ | refine po_box rfl ?_ | refine po_zero ?_ | refine po_nil ?_)
  refine mw_seq (mw_ops ?_)
  refine po_lit (es := []) rfl ?_
  repeat' (first | refine po_mv rfl (by conv => lhs; whnf) ?_ | refine po_s rfl rfl rfl ?_ | refine po_box rfl ?_ | refine po_zero ?_ | refine po_nil ?_)
  refine mw_cut (fun st => ∃ (i : Nat) (h : Int) (out : List UInt8) (t : Nat), TxS b N nt live i h out t st ∧ N ≤ out.length) ?_ ?_
  · refine mw_block ?_
    obtain ⟨n0, hn0, hp0⟩ := hK h0 hh0
    refine mw_while (TxI b N K nt live) _ ⟨i0, h0, [], nt, n0, ⟨⟨rfl, rfl, rfl, trivial⟩, rfl, NR.lit (es := []) hn (NR.refl nt live), hn, hi0, hh0, Nat.zero_le _⟩, hn0, fun _ => hp0, rfl⟩ ?_
    rintro m tm bx n1 l1 ⟨i, h, out, t, n, ⟨ht, hbx, hNR, ht2, hi, hh, hol⟩, hnK, hpr, rfl⟩
    have fin : ∀ (i' : Nat) (h' : Int) (out' : List UInt8) (t' : Nat) (st' : St), TxS b N nt live i' h' out' t' st' → out.length < N → (out.length < out'.length ∨ (out'.length = out.length ∧ (i < b.length → i < i') ∧ (i = b.length → i' = i ∧ ∃ n', n' < n ∧ Prg n' h'))) → ∃ m', m' < ((N - out.length) * (b.length + 1) + (b.length - i)) * (K + 1) + n ∧ TxI b N K nt live m' st' := by
      intro i' h' out' t' st' hS hlt hp
      rcases hp with hp | ⟨he, hp1, hp2⟩
      · obtain ⟨n', hn', hp'⟩ := hK h' hS.2.2.2.2.2.1
        exact ⟨_, lex1 (lex2 (by omega) (by omega)) hn', i', h', out', t', n', hS, hn', fun _ => hp', rfl⟩
      · by_cases hil : i < b.length
        · obtain ⟨n', hn', hp'⟩ := hK h' hS.2.2.2.2.2.1
          have := hp1 hil
          refine ⟨_, lex1 ?_ hn', i', h', out', t', n', hS, hn', fun _ => hp', rfl⟩
          rw [he]
          have := hS.2.2.2.2.1
          omega
        · obtain ⟨e1, n', hn', hp'⟩ := hp2 (by omega)
          refine ⟨_, ?_, i', h', out', t', n', hS, by omega, fun _ => hp', rfl⟩
          rw [he, e1]; omega
    have stuck : ∀ r : Int, (i = b.length → r = (lcX (lcM h)).tmod 5) → r < 3 → i = b.length → ∃ n', n' < n ∧ Prg n' (lcM h) ∧ Prg n' (lcM (lcM h)) ∧ Prg n' (lcM (lcM (lcM h))) := by
      intro r hr hr3 he
      have hp := hpr he
      have hr := hr he
      cases n with
      | zero => exact absurd (show 3 ≤ (lcX (lcM h)).tmod 5 from hp) (by omega)
      | succ n =>
        rcases hp with hp | hp
        · exact absurd (show 3 ≤ (lcX (lcM h)).tmod 5 from hp) (by omega)
        · exact ⟨n, Nat.lt_succ_self _, hp⟩
    obtain ⟨tm0, rfl⟩ := has_ups ht
    simp only at hbx hNR; subst hbx
    clear ht hpr
    refine mw_seq (mw_seq (mw_ops ?_))
    first | refine po_mv rfl (by conv => lhs; whnf) ?_ | refine po_s rfl rfl rfl ?_
    refine po_len (n := out.length) rfl rfl (pcB_len out) ?_
    first | refine po_mv rfl (by conv => lhs; whnf) ?_ | refine po_s rfl rfl rfl ?_
    refine po_b rfl rfl (fun q hq => ?_)
    refine po_nil ?_
    refine mw_cd (p := (out.length : Int) < N) hq rfl (fun hlt _ => ?_) (fun hlt _ => ?_)
    rotate_left
    · refine mw_exit ?_
      exact ⟨i, h, out, t, ⟨⟨rfl, rfl, rfl, trivial⟩, rfl, hNR, ht2, hi, hh, hol⟩, by omega⟩
    have hlt : out.length < N := by omega
    clear hq
    refine mw_skip ?_
    refine mw_block ?_
    refine mw_seq (mw_ops ?_)
    first | refine po_mv rfl (by conv => lhs; whnf) ?_ | refine po_s rfl rfl rfl ?_
    refine po_g rfl (hBl i hi h 5 (by decide) n1 l1) ?_
    rintro x bx n2 l2 ⟨r, i1, rfl, rfl, r0, r5, hi1, e1, e2, rfl, rfl⟩
    refine po_nil ?_
    refine mw_block ?_
    refine mw_seq (mw_ops ?_)
    by_cases k0 : r = 0
    · refine po_yes rfl rfl (beq_iff_eq.2 k0) ?_
      repeat' (first | refine po_mv rfl (by conv => lhs; whnf) ?_ | refine po_s rfl rfl rfl ?_ | refine po_box rfl ?_ | refine po_zero ?_ | refine po_nil ?_)
      refine mw_cond (t := true) rfl (fun _ => ?_) (fun h => absurd h (by decide))
      refine mw_ops ?_
      iterate 2 (first | refine po_mv rfl (by conv => lhs; whnf) ?_ | refine po_s rfl rfl rfl ?_)
      refine po_g rfl (hBy i1 hi1 (lcM h) n2 l2) ?_
      rintro x bx n3 l3 ⟨v, i2, rfl, rfl, v0, v1, hi2, _, _, rfl, rfl⟩
      refine po_cv (n := ((UInt8.ofNat v.toNat).toNat : Int)) rfl rfl (by rw [IntKind.wrap_u8]; simp; omega) ?_
      refine po_lit (es := [[.v (.int .u8 ((UInt8.ofNat v.toNat).toNat : Int))]]) rfl ?_
      refine po_app (t := t) (es := pcB out) (ds := [[.v (.int .u8 ((UInt8.ofNat v.toNat).toNat : Int))]]) rfl rfl (.inr (List.mem_cons_of_mem _ (hNR.mem1 ht2))) (by rw [pcB_len]; simp only [List.length_singleton]; omega) (fun e he => by simp only [List.mem_singleton] at he; subst he; rfl) (pcB_wid out) ?_
      repeat' (first | refine po_mv rfl (by conv => lhs; whnf) ?_ | refine po_s rfl rfl rfl ?_ | refine po_box rfl ?_ | refine po_zero ?_ | refine po_nil ?_)
      exact fin i2 (lcM (lcM h)) (out ++ [UInt8.ofNat v.toNat]) _ _ ⟨⟨rfl, rfl, by rw [pcB_app]; rfl, trivial⟩, rfl, hNR.byte hn ht2 _, by have := hNR.n2 hn; omega, hi2, lcM_ok _, by rw [List.length_append, List.length_singleton]; omega⟩ hlt (.inl (by rw [List.length_append, List.length_singleton]; omega))
    refine po_no rfl rfl (beq_eq_false_iff_ne.2 k0) ?_
    repeat' (first | refine po_mv rfl (by conv => lhs; whnf) ?_ | refine po_s rfl rfl rfl ?_ | refine po_box rfl ?_ | refine po_zero ?_ | refine po_nil ?_)
    refine mw_cond (t := false) rfl (fun h => absurd h (by decide)) (fun _ => ?_)
    refine mw_seq (mw_ops ?_)
    by_cases k1 : r = 1
    · refine po_yes rfl rfl (beq_iff_eq.2 k1) ?_
      repeat' (first | refine po_mv rfl (by conv => lhs; whnf) ?_ | refine po_s rfl rfl rfl ?_ | refine po_box rfl ?_ | refine po_zero ?_ | refine po_nil ?_)
      refine mw_cond (t := true) rfl (fun _ => ?_) (fun h => absurd h (by decide))
      refine mw_seq (mw_ops ?_)
      first | refine po_mv rfl (by conv => lhs; whnf) ?_ | refine po_s rfl rfl rfl ?_
      refine po_g rfl (hBl i1 hi1 (lcM h) 9 (by decide) n2 l2) ?_
      rintro x bx n3 l3 ⟨k, i2, rfl, rfl, kk0, kk1, hi2, f1, f2, rfl, rfl⟩
      obtain ⟨k, rfl⟩ : ∃ k' : Nat, k = k' := ⟨k.toNat, by omega⟩
      repeat' (first | refine po_mv rfl (by conv => lhs; whnf) ?_ | refine po_s rfl rfl rfl ?_ | refine po_box rfl ?_ | refine po_zero ?_ | refine po_nil ?_)
      refine mw_seq (mw_ops ?_)
      first | refine po_mv rfl (by conv => lhs; whnf) ?_ | refine po_s rfl rfl rfl ?_
      refine po_g rfl (hBl i2 hi2 (lcM (lcM h)) 4 (by decide) n3 l3) ?_
      rintro x bx n4 l4 ⟨v, i3, rfl, rfl, v0, v1, hi3, g1, g2, rfl, rfl⟩
      refine po_add (n := 97 + v) rfl rfl rfl rfl (by omega) ?_
      refine po_cv (n := ((UInt8.ofNat (97 + v).toNat).toNat : Int)) rfl rfl (by rw [IntKind.wrap_u8]; simp; omega) ?_
      repeat' (first | refine po_mv rfl (by conv => lhs; whnf) ?_ | refine po_s rfl rfl rfl ?_ | refine po_box rfl ?_ | refine po_zero ?_ | refine po_nil ?_)
      refine mw_seq (mw_ops ?_)
      repeat' (first | refine po_mv rfl (by conv => lhs; whnf) ?_ | refine po_s rfl rfl rfl ?_ | refine po_box rfl ?_ | refine po_zero ?_ | refine po_nil ?_)
      refine mw_block ?_
      refine mw_while (fun m st => ∃ (j : Nat) (out' : List UInt8) (t' : Nat), j ≤ k ∧ m = k - j ∧ out'.length = out.length + j ∧ has st.tm [(0, .ref 0 0), (1, .d (pI N)), (5, .d (.sl t' (pcB out'))), (6, .d (pI k)), (7, .d (.v (.int .u8 ((UInt8.ofNat (97 + v).toNat).toNat : Int)))), (8, .d (pI j))] ∧ st.bx = [cuC b i3 (lcM (lcM (lcM h)))] ∧ NR nt live st.nt st.live [.sl t' (pcB out')] ∧ 2 ≤ t') k ⟨0, out, t, Nat.zero_le _, rfl, rfl, ⟨rfl, rfl, rfl, rfl, rfl, rfl, trivial⟩, rfl, hNR, ht2⟩ ?_
      rintro m tm bx n5 l5 ⟨j, out', t', hj, rfl, hlen, ht, hbx, hNR', ht2'⟩
      obtain ⟨tm1, rfl⟩ := has_ups ht
      simp only at hbx hNR'; subst hbx
      clear ht
      refine mw_seq (mw_seq (mw_ops ?_))
      iterate 2 (first | refine po_mv rfl (by conv => lhs; whnf) ?_ | refine po_s rfl rfl rfl ?_)
      refine po_b rfl rfl (fun q hq => ?_)
      refine po_nil ?_
      refine mw_cd (p := (j : Int) < k) hq rfl (fun hjk _ => ?_) (fun hjk _ => ?_)
      · refine mw_skip ?_
        refine mw_seq (mw_block (mw_ops ?_))
        iterate 2 (first | refine po_mv rfl (by conv => lhs; whnf) ?_ | refine po_s rfl rfl rfl ?_)
        refine po_lit (es := [[.v (.int .u8 ((UInt8.ofNat (97 + v).toNat).toNat : Int))]]) rfl ?_
        refine po_app (t := t') (es := pcB out') (ds := [[.v (.int .u8 ((UInt8.ofNat (97 + v).toNat).toNat : Int))]]) rfl rfl (.inr (List.mem_cons_of_mem _ (hNR'.mem1 ht2'))) (by rw [pcB_len]; simp only [List.length_singleton]; omega) (fun e he => by simp only [List.mem_singleton] at he; subst he; rfl) (pcB_wid out') ?_
        repeat' (first | refine po_mv rfl (by conv => lhs; whnf) ?_ | refine po_s rfl rfl rfl ?_ | refine po_box rfl ?_ | refine po_zero ?_ | refine po_nil ?_)
        refine mw_ops ?_
        first | refine po_mv rfl (by conv => lhs; whnf) ?_ | refine po_s rfl rfl rfl ?_
        refine po_add (n := ((j + 1 : Nat) : Int)) rfl rfl rfl (by omega) (by omega) ?_
        repeat' (first | refine po_mv rfl (by conv => lhs; whnf) ?_ | refine po_s rfl rfl rfl ?_ | refine po_box rfl ?_ | refine po_zero ?_ | refine po_nil ?_)
        exact ⟨_, by show k - (j + 1) < k - j; omega, j + 1, out' ++ [UInt8.ofNat (97 + v).toNat], _, by omega, rfl, by rw [List.length_append, List.length_singleton]; omega, ⟨rfl, rfl, by rw [pcB_app]; rfl, rfl, rfl, rfl, trivial⟩, rfl, hNR'.byte hn ht2' _, by have := hNR'.n2 hn; omega⟩
      · refine mw_exit ?_
        refine fin i3 (lcM (lcM (lcM h))) out' t' _ ⟨⟨rfl, rfl, rfl, trivial⟩, rfl, hNR', ht2', hi3, lcM_ok _, by omega⟩ hlt ?_
        by_cases hk : k = 0
        · right
          refine ⟨by omega, fun hil => ?_, fun hil => ?_⟩
          · have := e1 hil
            by_cases c1 : i1 < b.length
            · have := f1 c1
              by_cases c2 : i2 < b.length
              · have := g1 c2; omega
              · have := (g2 (by omega)).1; omega
            · have := (f2 (by omega)).1
              have := (g2 (by omega)).1; omega
          · have q1 := (e2 hil).1
            have q2 := (f2 (by omega)).1
            have q3 := (g2 (by omega)).1
            obtain ⟨n', hn', _, _, hp⟩ := stuck r (fun h => (e2 h).2) (by omega) hil
            exact ⟨by omega, n', hn', hp⟩
        · left; omega
    refine po_no rfl rfl (beq_eq_false_iff_ne.2 k1) ?_
    repeat' (first | refine po_mv rfl (by conv => lhs; whnf) ?_ | refine po_s rfl rfl rfl ?_ | refine po_box rfl ?_ | refine po_zero ?_ | refine po_nil ?_)
    refine mw_cond (t := false) rfl (fun h => absurd h (by decide)) (fun _ => ?_)
    refine mw_seq (mw_ops ?_)
    by_cases k2 : r = 2
    · refine po_yes rfl rfl (beq_iff_eq.2 k2) ?_
      repeat' (first | refine po_mv rfl (by conv => lhs; whnf) ?_ | refine po_s rfl rfl rfl ?_ | refine po_box rfl ?_ | refine po_zero ?_ | refine po_nil ?_)
      refine mw_cond (t := true) rfl (fun _ => ?_) (fun h => absurd h (by decide))
      refine mw_seq (mw_ops ?_)
      first | refine po_mv rfl (by conv => lhs; whnf) ?_ | refine po_s rfl rfl rfl ?_
      refine po_len (n := out.length) rfl rfl (pcB_len out) ?_
      by_cases hz : out.length = 0
      · refine po_no rfl rfl (decide_eq_false (by omega)) ?_
        refine po_nil ?_
        refine mw_cond (t := false) rfl (fun h => absurd h (by decide)) (fun _ => ?_)
        refine mw_skip ?_
        refine fin i1 (lcM h) out t _ ⟨⟨rfl, rfl, rfl, trivial⟩, rfl, hNR, ht2, hi1, lcM_ok _, hol⟩ hlt (.inr ⟨rfl, fun hil => by have := e1 hil; omega, fun hil => ?_⟩)
        obtain ⟨n', hn', hp, _, _⟩ := stuck r (fun h => (e2 h).2) (by omega) hil
        exact ⟨(e2 hil).1, n', hn', hp⟩
      refine po_yes rfl rfl (decide_eq_true (by omega)) ?_
      refine po_nil ?_
      refine mw_cond (t := true) rfl (fun _ => ?_) (fun h => absurd h (by decide))
      refine mw_seq (mw_ops ?_)
      iterate 2 (first | refine po_mv rfl (by conv => lhs; whnf) ?_ | refine po_s rfl rfl rfl ?_)
      refine po_len (n := out.length) rfl rfl (pcB_len out) ?_
      refine po_g rfl (hBl i1 hi1 (lcM h) (out.length : Int) (by omega) n2 l2) ?_
      rintro x bx n3 l3 ⟨f, i2, rfl, rfl, ff0, ff1, hi2, f1, f2, rfl, rfl⟩
      obtain ⟨f, rfl⟩ : ∃ k' : Nat, f = k' := ⟨f.toNat, by omega⟩
      repeat' (first | refine po_mv rfl (by conv => lhs; whnf) ?_ | refine po_s rfl rfl rfl ?_ | refine po_box rfl ?_ | refine po_zero ?_ | refine po_nil ?_)
      refine mw_seq (mw_ops ?_)
      first | refine po_mv rfl (by conv => lhs; whnf) ?_ | refine po_s rfl rfl rfl ?_
      refine po_g rfl (hBl i2 hi2 (lcM (lcM h)) 20 (by decide) n3 l3) ?_
      rintro x bx n4 l4 ⟨k, i3, rfl, rfl, v0, v1, hi3, g1, g2, rfl, rfl⟩
      obtain ⟨k, rfl⟩ : ∃ k' : Nat, k = k' := ⟨k.toNat, by omega⟩
      repeat' (first | refine po_mv rfl (by conv => lhs; whnf) ?_ | refine po_s rfl rfl rfl ?_ | refine po_box rfl ?_ | refine po_zero ?_ | refine po_nil ?_)
      refine mw_seq (mw_ops ?_)
      repeat' (first | refine po_mv rfl (by conv => lhs; whnf) ?_ | refine po_s rfl rfl rfl ?_ | refine po_box rfl ?_ | refine po_zero ?_ | refine po_nil ?_)
      refine mw_block ?_
      refine mw_while (fun m st => ∃ (j : Nat) (out' : List UInt8) (t' : Nat), j ≤ k ∧ m = k - j ∧ out'.length = out.length + j ∧ has st.tm [(0, .ref 0 0), (1, .d (pI N)), (5, .d (.sl t' (pcB out'))), (9, .d (pI f)), (10, .d (pI k)), (11, .d (pI j))] ∧ st.bx = [cuC b i3 (lcM (lcM (lcM h)))] ∧ NR nt live st.nt st.live [.sl t' (pcB out')] ∧ 2 ≤ t') k ⟨0, out, t, Nat.zero_le _, rfl, rfl, ⟨rfl, rfl, rfl, rfl, rfl, rfl, trivial⟩, rfl, hNR, ht2⟩ ?_
      rintro m tm bx n5 l5 ⟨j, out', t', hj, rfl, hlen, ht, hbx, hNR', ht2'⟩
      obtain ⟨tm1, rfl⟩ := has_ups ht
      simp only at hbx hNR'; subst hbx
      clear ht
      refine mw_seq (mw_cut (fun st => has st.tm [(0, .ref 0 0), (1, .d (pI N)), (5, .d (.sl t' (pcB out'))), (9, .d (pI f)), (10, .d (pI k)), (11, .d (pI j)), (72, .d (pB (decide (j < k))))] ∧ st.bx = [cuC b i3 (lcM (lcM (lcM h)))] ∧ st.nt = n5 ∧ st.live = l5) ?_ ?_)
      · refine mw_ops ?_
        iterate 2 (first | refine po_mv rfl (by conv => lhs; whnf) ?_ | refine po_s rfl rfl rfl ?_)
        by_cases c1 : j < k
        · refine po_yes rfl rfl (decide_eq_true (by omega)) ?_
          iterate 3 (first | refine po_mv rfl (by conv => lhs; whnf) ?_ | refine po_s rfl rfl rfl ?_)
          refine po_add (n := ((f + j : Nat) : Int)) rfl rfl rfl (by omega) (by omega) ?_
          first | refine po_mv rfl (by conv => lhs; whnf) ?_ | refine po_s rfl rfl rfl ?_
          refine po_len (n := out'.length) rfl rfl (pcB_len out') ?_
          refine po_yes rfl rfl (decide_eq_true (by omega)) ?_
          repeat' (first | refine po_mv rfl (by conv => lhs; whnf) ?_ | refine po_s rfl rfl rfl ?_ | refine po_box rfl ?_ | refine po_zero ?_ | refine po_nil ?_)
          exact ⟨⟨rfl, rfl, rfl, rfl, rfl, rfl, by rw [decide_eq_true c1]; rfl, trivial⟩, rfl, rfl, rfl⟩
        · refine po_no rfl rfl (decide_eq_false (by omega)) ?_
          first | refine po_mv rfl (by conv => lhs; whnf) ?_ | refine po_s rfl rfl rfl ?_
          iterate 6 (refine po_skip rfl ?_)
          repeat' (first | refine po_mv rfl (by conv => lhs; whnf) ?_ | refine po_s rfl rfl rfl ?_ | refine po_box rfl ?_ | refine po_zero ?_ | refine po_nil ?_)
          exact ⟨⟨rfl, rfl, rfl, rfl, rfl, rfl, by rw [decide_eq_false c1]; rfl, trivial⟩, rfl, rfl, rfl⟩
      rintro tm bx n6 l6 ⟨ht, hbx, hn6, hl6⟩
      obtain ⟨tm2, rfl⟩ := has_ups ht
      simp only at hbx hn6 hl6; subst hbx; subst hn6; subst hl6
      clear ht tm1
      refine mw_cd0 (p := j < k) rfl (fun hjk => ?_) (fun hjk => ?_)
      · have hfj : f + j < out'.length := by omega
        have hg : out'[f + j]? = some out'[f + j] := List.getElem?_eq_getElem hfj
        generalize out'[f + j] = y at hg
        refine mw_skip ?_
        refine mw_seq (mw_block (mw_ops ?_))
        iterate 4 (first | refine po_mv rfl (by conv => lhs; whnf) ?_ | refine po_s rfl rfl rfl ?_)
        refine po_add (n := ((f + j : Nat) : Int)) rfl rfl rfl (by omega) (by omega) ?_
        refine po_ix (es := pcB out') (e := [.v (.int .u8 y.toNat)]) rfl rfl rfl ⟨by omega, by rw [Int.toNat_natCast]; exact pcB_get hg⟩ rfl ?_
        first | refine po_mv rfl (by conv => lhs; whnf) ?_ | refine po_s rfl rfl rfl ?_
        refine po_lit (es := [[.v (.int .u8 y.toNat)]]) rfl ?_
        refine po_app (t := t') (es := pcB out') (ds := [[.v (.int .u8 y.toNat)]]) rfl rfl (.inr (List.mem_cons_of_mem _ (hNR'.mem1 ht2'))) (by rw [pcB_len]; simp only [List.length_singleton]; omega) (fun e he => by simp only [List.mem_singleton] at he; subst he; rfl) (pcB_wid out') ?_
        repeat' (first | refine po_mv rfl (by conv => lhs; whnf) ?_ | refine po_s rfl rfl rfl ?_ | refine po_box rfl ?_ | refine po_zero ?_ | refine po_nil ?_)
        refine mw_ops ?_
        first | refine po_mv rfl (by conv => lhs; whnf) ?_ | refine po_s rfl rfl rfl ?_
        refine po_add (n := ((j + 1 : Nat) : Int)) rfl rfl rfl (by omega) (by omega) ?_
        repeat' (first | refine po_mv rfl (by conv => lhs; whnf) ?_ | refine po_s rfl rfl rfl ?_ | refine po_box rfl ?_ | refine po_zero ?_ | refine po_nil ?_)
        exact ⟨_, by show k - (j + 1) < k - j; omega, j + 1, out' ++ [y], _, by omega, rfl, by rw [List.length_append, List.length_singleton]; omega, ⟨rfl, rfl, by rw [pcB_app]; rfl, rfl, rfl, rfl, trivial⟩, rfl, hNR'.byte hn ht2' _, by have := hNR'.n2 hn; omega⟩
      · refine mw_exit ?_
        refine fin i3 (lcM (lcM (lcM h))) out' t' _ ⟨⟨rfl, rfl, rfl, trivial⟩, rfl, hNR', ht2', hi3, lcM_ok _, by omega⟩ hlt ?_
        by_cases hk : k = 0
        · right
          refine ⟨by omega, fun hil => ?_, fun hil => ?_⟩
          · have := e1 hil
            by_cases c1 : i1 < b.length
            · have := f1 c1
              by_cases c2 : i2 < b.length
              · have := g1 c2; omega
              · have := (g2 (by omega)).1; omega
            · have := (f2 (by omega)).1
              have := (g2 (by omega)).1; omega
          · have q1 := (e2 hil).1
            have q2 := (f2 (by omega)).1
            have q3 := (g2 (by omega)).1
            obtain ⟨n', hn', _, _, hp⟩ := stuck r (fun h => (e2 h).2) (by omega) hil
            exact ⟨by omega, n', hn', hp⟩
        · left; omega
    refine po_no rfl rfl (beq_eq_false_iff_ne.2 k2) ?_
    repeat' (first | refine po_mv rfl (by conv => lhs; whnf) ?_ | refine po_s rfl rfl rfl ?_ | refine po_box rfl ?_ | refine po_zero ?_ | refine po_nil ?_)
    refine mw_cond (t := false) rfl (fun h => absurd h (by decide)) (fun _ => ?_)
    refine mw_ops ?_
    iterate 2 (first | refine po_mv rfl (by conv => lhs; whnf) ?_ | refine po_s rfl rfl rfl ?_)
    refine po_g rfl (hBl i1 hi1 (lcM h) 26 (by decide) n2 l2) ?_
    rintro x bx n3 l3 ⟨v, i2, rfl, rfl, v0, v1, hi2, _, _, rfl, rfl⟩
    refine po_add (n := 97 + v) rfl rfl rfl rfl (by omega) ?_
    refine po_cv (n := ((UInt8.ofNat (97 + v).toNat).toNat : Int)) rfl rfl (by rw [IntKind.wrap_u8]; simp; omega) ?_
    refine po_lit (es := [[.v (.int .u8 ((UInt8.ofNat (97 + v).toNat).toNat : Int))]]) rfl ?_
    refine po_app (t := t) (es := pcB out) (ds := [[.v (.int .u8 ((UInt8.ofNat (97 + v).toNat).toNat : Int))]]) rfl rfl (.inr (List.mem_cons_of_mem _ (hNR.mem1 ht2))) (by rw [pcB_len]; simp only [List.length_singleton]; omega) (fun e he => by simp only [List.mem_singleton] at he; subst he; rfl) (pcB_wid out) ?_
    repeat' (first | refine po_mv rfl (by conv => lhs; whnf) ?_ | refine po_s rfl rfl rfl ?_ | refine po_box rfl ?_ | refine po_zero ?_ | refine po_nil ?_)
    exact fin i2 (lcM (lcM h)) (out ++ [UInt8.ofNat (97 + v).toNat]) _ _ ⟨⟨rfl, rfl, by rw [pcB_app]; rfl, trivial⟩, rfl, hNR.byte hn ht2 _, by have := hNR.n2 hn; omega, hi2, lcM_ok _, by rw [List.length_append, List.length_singleton]; omega⟩ hlt (.inl (by rw [List.length_append, List.length_singleton]; omega))
  rintro tm bx n1 l1 ⟨i, h, out, t, ⟨ht, hbx, hNR, ht2, hi, hh, hol⟩, hlen⟩
  obtain ⟨tm0, rfl⟩ := has_ups ht
  simp only at hbx hNR; subst hbx
  clear ht
  refine mw_seq (mw_ops ?_)
  iterate 2 (first | refine po_mv rfl (by conv => lhs; whnf) ?_ | refine po_s rfl rfl rfl ?_)
  refine po_slx (es := pcB out) (l := 0) (h := N) (rs := pcB (out.take N)) rfl rfl rfl (bound_nat rfl rfl) ⟨Nat.zero_le _, by rw [pcB_len]; exact hlen⟩ (pcB_wid out) (by simp [pcB, List.map_take]) ?_
  refine po_q (v := .d (pS (out.take N))) rfl ?_ ?_
  · show (byteL (pcB (out.take N))).map _ = _
    rw [byteL_pcB]; rfl
  repeat' (first | refine po_mv rfl (by conv => lhs; whnf) ?_ | refine po_s rfl rfl rfl ?_ | refine po_box rfl ?_ | refine po_zero ?_ | refine po_nil ?_)
  exact mw_ret ⟨.inr rfl, [.d (pS (out.take N))], rfl, cuC b i h, [], rfl, trivial, cuC_lw .., ⟨i, h, hi, hh, rfl⟩, out.take N, rfl, by show (out.take N).length = N; rw [List.length_take]; omega, hNR.forget⟩
end Go.Proofs.YthngfihpnfoppaaDoor

namespace Go.Proofs.YthngfihpnfoppaaDoor
open Go.RowKit
variable {T : World → Prop} {hT : Low ngl T}
attribute [local irreducible] po mw pt

/-- what a draw of a value leaves -/
def DvR (b : List UInt8) (K B nt : Nat) (live : List Nat) (x : PV) (bx : List (List PC)) (n : Nat) (l : List Nat) : Prop := ∃ c' rest, bx = c' :: rest ∧ x.lw 0 ∧ lwL 0 c' ∧ Cu b c' ∧ QV K B nt live x n l
theorem dvR_of {b : List UInt8} {K B nt n : Nat} {live l : List Nat} {c : List PC} {rest : List (List PC)} {cs : List PC} {v : V} (hc : Cu b c) (hN : NR nt live n l cs) (he : erL cs = vC v) (hg : Gd B v) (hR : RowT cs) (hk : v.kids.length ≤ K) : DvR b K B nt live (.ag cs) (c :: rest) n l :=
  ⟨c, rest, rfl, hN.lw, hc.lw, hc, cs, v, rfl, hN, he, hg, hR, hk⟩
theorem rowT1 {a b c d : PC} : RowT [a, b, c, d, .sl 1 []] := ⟨a, b, c, d, 1, [], rfl, .inl ⟨rfl, rfl⟩⟩
theorem leaf_gd {k n e : Int} {s : List UInt8} {B : Nat} (hk : i64ok k) (hn : i64ok n) (he : i64ok e) (hs : s.length ≤ B) (hB : B ≤ 1048576) : Gd B (.mk k n e s []) :=
  ⟨⟨hk, hn, he, by unfold strok; omega, by simp, trivial⟩, ⟨fun _ => Nat.zero_le _, trivial⟩, by simp only [V.bulk, V.bulks, List.length_nil]; omega⟩
theorem leaf_new {nt n : Nat} {live l : List Nat} {k m e : Int} {s : List UInt8} (h : NR nt live n l []) : NR nt live n l [pI k, pI m, pI e, pS s, .sl 1 []] := h.plain rfl rfl
theorem leaf_er {k m e : Int} {s : List UInt8} : erL [pI k, pI m, pI e, pS s, .sl 1 []] = vC (.mk k m e s []) := rfl
theorem leaf_new0 {nt n : Nat} {live l : List Nat} {k m e : Int} {s : List UInt8} (h : NR nt live n l []) : NR nt live n l (vC (.mk k m e s [])) := h.plain rfl rfl
theorem str_fn (s : List UInt8) : FnV (env T hT) 27 [.d (pS s)] (.ag (vC (.mk 5 0 0 s []))) := by
  refine fn_of (look_env lk_s_l02Str) (by show 1 ≤ 5; decide) fun B hB => ?_
  unfold m_s_l02Str
  refine mw_seq (mw_ops ?_)
  repeat' (first | refine po_mv rfl (by conv => lhs; whnf) ?_ | refine po_s rfl rfl rfl ?_ | refine po_box rfl ?_ | refine po_zero ?_ | refine po_nil ?_)
  refine mw_seq (mw_ops ?_)
  iterate 2 (first | refine po_mv rfl (by conv => lhs; whnf) ?_ | refine po_s rfl rfl rfl ?_)
  refine po_stw (p := 0) (cs := [pI 5, pI 0, pI 0, pS s, .sl 1 []]) rfl rfl rfl rfl rfl rfl ?_
  repeat' (first | refine po_mv rfl (by conv => lhs; whnf) ?_ | refine po_s rfl rfl rfl ?_ | refine po_box rfl ?_ | refine po_zero ?_ | refine po_nil ?_)
  exact mw_ret ⟨.inr rfl, [.ag [pI 5, pI 0, pI 0, pS s, .sl 1 []]], rfl, rfl⟩
theorem intD_fn (n : Int) : FnV (env T hT) 28 [.d (pI n)] (.ag (vC (.mk 3 n 0 [] []))) := by
  refine fn_of (look_env lk_s_l02Int) (by show 1 ≤ 5; decide) fun B hB => ?_
  unfold m_s_l02Int
  refine mw_seq (mw_ops ?_)
  repeat' (first | refine po_mv rfl (by conv => lhs; whnf) ?_ | refine po_s rfl rfl rfl ?_ | refine po_box rfl ?_ | refine po_zero ?_ | refine po_nil ?_)
  refine mw_seq (mw_ops ?_)
  iterate 2 (first | refine po_mv rfl (by conv => lhs; whnf) ?_ | refine po_s rfl rfl rfl ?_)
  refine po_stw (p := 0) (cs := [pI 3, pI n, pI 0, pS [], .sl 1 []]) rfl rfl rfl rfl rfl rfl ?_
  repeat' (first | refine po_mv rfl (by conv => lhs; whnf) ?_ | refine po_s rfl rfl rfl ?_ | refine po_box rfl ?_ | refine po_zero ?_ | refine po_nil ?_)
  exact mw_ret ⟨.inr rfl, [.ag [pI 3, pI n, pI 0, pS [], .sl 1 []]], rfl, rfl⟩
def vL (k n e : Int) (s : List UInt8) : List PC := [pI k, pI n, pI e, pS s, .sl 1 []]
theorem str_g (s : List UInt8) {bx : List (List PC)} {nt : Nat} {live : List Nat} : FnG (env T hT) 27 [.d (pS s)] bx nt live (fun x b n l => b = bx ∧ x = .ag (vL 5 0 0 s) ∧ n = nt ∧ l = live) := by
  refine FnG.lift0 (args := [.d (pS s)]) (R := fun x n l => x = .ag (vL 5 0 0 s) ∧ n = nt ∧ l = live) ?_ ⟨trivial, trivial⟩
  refine fng_of (look_env lk_s_l02Str) (by show 1 ≤ 5; decide) fun B hB => ?_
  unfold m_s_l02Str
  refine mw_seq (mw_ops ?_)
  repeat' (first | refine po_mv rfl (by conv => lhs; whnf) ?_ | refine po_s rfl rfl rfl ?_ | refine po_box rfl ?_ | refine po_zero ?_ | refine po_nil ?_)
  refine mw_seq (mw_ops ?_)
  iterate 2 (first | refine po_mv rfl (by conv => lhs; whnf) ?_ | refine po_s rfl rfl rfl ?_)
  refine po_stw (p := 0) (cs := vL 5 0 0 s) rfl rfl rfl rfl rfl rfl ?_
  repeat' (first | refine po_mv rfl (by conv => lhs; whnf) ?_ | refine po_s rfl rfl rfl ?_ | refine po_box rfl ?_ | refine po_zero ?_ | refine po_nil ?_)
  exact mw_ret ⟨.inr rfl, [.ag (vL 5 0 0 s)], rfl, ⟨trivial, trivial, trivial, trivial, trivial, trivial⟩, rfl, rfl, rfl⟩
theorem int_g (m : Int) {bx : List (List PC)} {nt : Nat} {live : List Nat} : FnG (env T hT) 28 [.d (pI m)] bx nt live (fun x b n l => b = bx ∧ x = .ag (vL 3 m 0 []) ∧ n = nt ∧ l = live) := by
  refine FnG.lift0 (args := [.d (pI m)]) (R := fun x n l => x = .ag (vL 3 m 0 []) ∧ n = nt ∧ l = live) ?_ ⟨trivial, trivial⟩
  refine fng_of (look_env lk_s_l02Int) (by show 1 ≤ 5; decide) fun B hB => ?_
  unfold m_s_l02Int
  refine mw_seq (mw_ops ?_)
  repeat' (first | refine po_mv rfl (by conv => lhs; whnf) ?_ | refine po_s rfl rfl rfl ?_ | refine po_box rfl ?_ | refine po_zero ?_ | refine po_nil ?_)
  refine mw_seq (mw_ops ?_)
  iterate 2 (first | refine po_mv rfl (by conv => lhs; whnf) ?_ | refine po_s rfl rfl rfl ?_)
  refine po_stw (p := 0) (cs := vL 3 m 0 []) rfl rfl rfl rfl rfl rfl ?_
  repeat' (first | refine po_mv rfl (by conv => lhs; whnf) ?_ | refine po_s rfl rfl rfl ?_ | refine po_box rfl ?_ | refine po_zero ?_ | refine po_nil ?_)
  exact mw_ret ⟨.inr rfl, [.ag (vL 3 m 0 [])], rfl, ⟨trivial, trivial, trivial, trivial, trivial, trivial⟩, rfl, rfl, rfl⟩
def i64B (n : Int) : Bool := decide (-9223372036854775808 ≤ n) && decide (n ≤ 9223372036854775807)
theorem i64B_ok {n : Int} (h : i64B n = true) : i64ok n := by
  unfold i64B at h
  simp only [Bool.and_eq_true, decide_eq_true_eq] at h
  exact ⟨h.1, h.2⟩
theorem i64ok_n {n : Int} (h : -1000 ≤ n ∧ n ≤ 2000000) : i64ok n := by unfold i64ok; omega
set_option maxHeartbeats 1000000 in
theorem leaf_drw {b : List UInt8} (hb : b.length ≤ 2147483647) (pl : Bool) : Drw (env T hT) b 26 [.d (pB pl)] (QV 0 20) := by
  rintro c nt live hc hn
  refine fng_of (R := DvR b 0 20 nt live) (look_env lk_s_l02Leaf) (by show 2 ≤ 48; decide) fun B hB' => ?_
  have hBl := fun m => below_drw (T := T) (hT := hT) hb m
  unfold m_s_l02Leaf
  refine mw_seq (mw_ops ?_)
  repeat' (first | refine po_mv rfl (by conv => lhs; whnf) ?_ | refine po_s rfl rfl rfl ?_ | refine po_box rfl ?_ | refine po_zero ?_ | refine po_nil ?_)
  refine mw_cut (fun st => ∃ c1, Cu b c1 ∧ has st.tm [(0, .ref 0 0), (4, .ref 1 0)] ∧ st.bx = [c1, [pI 0, pI 0, pI 0, pS [], .sl 1 []]] ∧ NR nt live st.nt st.live []) ?_ ?_
  · refine mw_seq (mw_ops ?_)
    first | refine po_mv rfl (by conv => lhs; whnf) ?_ | refine po_s rfl rfl rfl ?_
    refine po_g rfl ((hBl 9).use ⟨trivial, trivial⟩ hc hn (p := 0) rfl) ?_
    rintro x bx n1 l1 ⟨c1, rfl, hc1, r, rfl, r0, r1, hN1⟩
    have hn1 := hN1.n2 hn
    refine po_nil ?_
    refine mw_block ?_
    refine mw_seq (mw_ops ?_)
    by_cases k0 : r = 0
    · refine po_yes rfl rfl (beq_iff_eq.2 k0) ?_
      repeat' (first | refine po_mv rfl (by conv => lhs; whnf) ?_ | refine po_s rfl rfl rfl ?_ | refine po_box rfl ?_ | refine po_zero ?_ | refine po_nil ?_)
      refine mw_cond (t := true) rfl (fun _ => ?_) (fun h => absurd h (by decide))
      refine mw_seq (mw_ops ?_)
      first | refine po_mv rfl (by conv => lhs; whnf) ?_ | refine po_s rfl rfl rfl ?_
      refine po_g rfl ((hBl 3).use ⟨trivial, trivial⟩ hc1 hn1 (p := 0) rfl) ?_
      rintro x bx n2 l2 ⟨c2, rfl, hc2, v, rfl, v0, v1, hN2⟩
      first | refine po_mv rfl (by conv => lhs; whnf) ?_ | refine po_s rfl rfl rfl ?_
      refine po_stw (p := 1) (cs := [pI v, pI 0, pI 0, pS [], .sl 1 []]) rfl rfl rfl rfl rfl rfl ?_
      repeat' (first | refine po_mv rfl (by conv => lhs; whnf) ?_ | refine po_s rfl rfl rfl ?_ | refine po_box rfl ?_ | refine po_zero ?_ | refine po_nil ?_)
      exact mw_ret ⟨.inr rfl, [.ag [pI v, pI 0, pI 0, pS [], .sl 1 []]], rfl, dvR_of hc2 (leaf_new (hN1.pass hN2)) leaf_er (leaf_gd (i64ok_n (by omega)) (i64ok_n (by omega)) (i64ok_n (by omega)) (Nat.zero_le _) (by decide)) rowT1 (Nat.zero_le _)⟩
    refine po_no rfl rfl (beq_eq_false_iff_ne.2 k0) ?_
    repeat' (first | refine po_mv rfl (by conv => lhs; whnf) ?_ | refine po_s rfl rfl rfl ?_ | refine po_box rfl ?_ | refine po_zero ?_ | refine po_nil ?_)
    refine mw_cond (t := false) rfl (fun h => absurd h (by decide)) (fun _ => ?_)
    refine mw_seq (mw_ops ?_)
    by_cases k1 : r = 1
    · refine po_yes rfl rfl (beq_iff_eq.2 k1) ?_
      repeat' (first | refine po_mv rfl (by conv => lhs; whnf) ?_ | refine po_s rfl rfl rfl ?_ | refine po_box rfl ?_ | refine po_zero ?_ | refine po_nil ?_)
      refine mw_cond (t := true) rfl (fun _ => ?_) (fun h => absurd h (by decide))
      refine mw_seq (mw_ops ?_)
      first | refine po_mv rfl (by conv => lhs; whnf) ?_ | refine po_s rfl rfl rfl ?_
      refine po_lit rfl ?_
      refine po_g rfl ((pickI_drw (T := T) (hT := hT) hb i64B rfl (by show 0 < 5; decide)).use ⟨by simp only [PV.lw, PC.lw]; exact allI_lw (p := i64B) rfl, trivial⟩ hc1 (by omega) (p := 0) rfl) ?_
      rintro x bx n2 l2 ⟨c2, rfl, hc2, v, rfl, hv, hN2⟩
      have hN12 := hN1.up.pass hN2
      first | refine po_mv rfl (by conv => lhs; whnf) ?_ | refine po_s rfl rfl rfl ?_
      refine po_lit rfl ?_
      refine po_g rfl ((pickI_drw (T := T) (hT := hT) hb i64B rfl (by show 0 < 5; decide)).use ⟨by simp only [PV.lw, PC.lw]; exact allI_lw (p := i64B) rfl, trivial⟩ hc2 (by have := hN12.n2 hn; omega) (p := 0) rfl) ?_
      rintro x bx n3 l3 ⟨c3, rfl, hc3, e, rfl, he, hN3⟩
      first | refine po_mv rfl (by conv => lhs; whnf) ?_ | refine po_s rfl rfl rfl ?_
      refine po_stw (p := 1) (cs := [pI 4, pI v, pI e, pS [], .sl 1 []]) rfl rfl rfl rfl rfl rfl ?_
      repeat' (first | refine po_mv rfl (by conv => lhs; whnf) ?_ | refine po_s rfl rfl rfl ?_ | refine po_box rfl ?_ | refine po_zero ?_ | refine po_nil ?_)
      exact mw_ret ⟨.inr rfl, [.ag [pI 4, pI v, pI e, pS [], .sl 1 []]], rfl, dvR_of hc3 (leaf_new (hN12.up.pass hN3)) leaf_er (leaf_gd (i64ok_n (by omega)) (i64B_ok hv) (i64B_ok he) (Nat.zero_le _) (by decide)) rowT1 (Nat.zero_le _)⟩
    refine po_no rfl rfl (beq_eq_false_iff_ne.2 k1) ?_
    repeat' (first | refine po_mv rfl (by conv => lhs; whnf) ?_ | refine po_s rfl rfl rfl ?_ | refine po_box rfl ?_ | refine po_zero ?_ | refine po_nil ?_)
    refine mw_cond (t := false) rfl (fun h => absurd h (by decide)) (fun _ => ?_)
    refine mw_seq (mw_ops ?_)
    by_cases k2 : r = 2
    · refine po_yes rfl rfl (beq_iff_eq.2 k2) ?_
      repeat' (first | refine po_mv rfl (by conv => lhs; whnf) ?_ | refine po_s rfl rfl rfl ?_ | refine po_box rfl ?_ | refine po_zero ?_ | refine po_nil ?_)
      refine mw_cond (t := true) rfl (fun _ => ?_) (fun h => absurd h (by decide))
      refine mw_seq (mw_ops ?_)
      repeat' (first | refine po_mv rfl (by conv => lhs; whnf) ?_ | refine po_s rfl rfl rfl ?_ | refine po_box rfl ?_ | refine po_zero ?_ | refine po_nil ?_)
      cases pl with
      | true =>
        refine mw_cond (t := false) rfl (fun h => absurd h (by decide)) (fun _ => ?_)
        refine mw_skip ?_
        exact ⟨c1, hc1, ⟨rfl, rfl, trivial⟩, rfl, hN1⟩
      | false =>
      refine mw_cond (t := true) rfl (fun _ => ?_) (fun h => absurd h (by decide))
      refine mw_seq (mw_ops ?_)
      iterate 2 (first | refine po_mv rfl (by conv => lhs; whnf) ?_ | refine po_s rfl rfl rfl ?_)
      refine po_g rfl ((hBl 8).use ⟨trivial, trivial⟩ hc1 hn1 (p := 0) rfl) ?_
      rintro x bx n2 l2 ⟨c2, rfl, hc2, v, rfl, v0, v1, hN2⟩
      obtain ⟨v, rfl⟩ : ∃ k' : Nat, v = k' := ⟨v.toNat, by omega⟩
      have hN12 := hN1.pass hN2
      refine po_g rfl ((text_drw (T := T) (hT := hT) hb v (by omega)).use ⟨trivial, trivial⟩ hc2 (hN12.n2 hn) (p := 0) rfl) ?_
      rintro x bx n3 l3 ⟨c3, rfl, hc3, s, rfl, hs, hN3⟩
      first | refine po_mv rfl (by conv => lhs; whnf) ?_ | refine po_s rfl rfl rfl ?_
      refine po_stw (p := 1) (cs := [pI 6, pI 0, pI 0, pS s, .sl 1 []]) rfl rfl rfl rfl rfl rfl ?_
      repeat' (first | refine po_mv rfl (by conv => lhs; whnf) ?_ | refine po_s rfl rfl rfl ?_ | refine po_box rfl ?_ | refine po_zero ?_ | refine po_nil ?_)
      exact mw_ret ⟨.inr rfl, [.ag [pI 6, pI 0, pI 0, pS s, .sl 1 []]], rfl, dvR_of hc3 (leaf_new (hN12.pass hN3)) leaf_er (leaf_gd (i64ok_n (by omega)) (i64ok_n (by omega)) (i64ok_n (by omega)) (by omega) (by decide)) rowT1 (Nat.zero_le _)⟩
    refine po_no rfl rfl (beq_eq_false_iff_ne.2 k2) ?_
    repeat' (first | refine po_mv rfl (by conv => lhs; whnf) ?_ | refine po_s rfl rfl rfl ?_ | refine po_box rfl ?_ | refine po_zero ?_ | refine po_nil ?_)
    refine mw_cond (t := false) rfl (fun h => absurd h (by decide)) (fun _ => ?_)
    refine mw_cut (fun st => has st.tm [(0, .ref 0 0), (4, .ref 1 0), (6, .d (pI r)), (30, .d (pB (decide (r = 3 ∨ r = 4))))] ∧ st.bx = [c1, [pI 0, pI 0, pI 0, pS [], .sl 1 []]] ∧ st.nt = n1 ∧ st.live = l1) ?_ ?_
    · refine mw_seq (mw_ops ?_)
      by_cases k3 : r = 3
      · refine po_yes rfl rfl (beq_iff_eq.2 k3) ?_
        repeat' (first | refine po_mv rfl (by conv => lhs; whnf) ?_ | refine po_s rfl rfl rfl ?_ | refine po_box rfl ?_ | refine po_zero ?_ | refine po_nil ?_)
        refine mw_cond (t := true) rfl (fun _ => ?_) (fun h => absurd h (by decide))
        refine mw_skip ?_
        exact ⟨⟨rfl, rfl, rfl, by rw [decide_eq_true (.inl k3)]; rfl, trivial⟩, rfl, rfl, rfl⟩
      · refine po_no rfl rfl (beq_eq_false_iff_ne.2 k3) ?_
        repeat' (first | refine po_mv rfl (by conv => lhs; whnf) ?_ | refine po_s rfl rfl rfl ?_ | refine po_box rfl ?_ | refine po_zero ?_ | refine po_nil ?_)
        refine mw_cond (t := false) rfl (fun h => absurd h (by decide)) (fun _ => ?_)
        refine mw_ops ?_
        by_cases k4 : r = 4
        · refine po_yes rfl rfl (beq_iff_eq.2 k4) ?_
          repeat' (first | refine po_mv rfl (by conv => lhs; whnf) ?_ | refine po_s rfl rfl rfl ?_ | refine po_box rfl ?_ | refine po_zero ?_ | refine po_nil ?_)
          exact ⟨⟨rfl, rfl, rfl, by rw [decide_eq_true (.inr k4)]; rfl, trivial⟩, rfl, rfl, rfl⟩
        · refine po_no rfl rfl (beq_eq_false_iff_ne.2 k4) ?_
          repeat' (first | refine po_mv rfl (by conv => lhs; whnf) ?_ | refine po_s rfl rfl rfl ?_ | refine po_box rfl ?_ | refine po_zero ?_ | refine po_nil ?_)
          exact ⟨⟨rfl, rfl, rfl, by rw [decide_eq_false (by omega)]; rfl, trivial⟩, rfl, rfl, rfl⟩
    rintro tm bx n2 l2 ⟨ht, hbx, hn2, hl2⟩
    obtain ⟨tm0, rfl⟩ := has_ups ht
    simp only at hbx hn2 hl2; subst hbx; subst hn2; subst hl2
    clear ht
    refine mw_cd0 (p := r = 3 ∨ r = 4) rfl (fun k => ?_) (fun k => ?_)
    · refine mw_seq (mw_ops ?_)
      first | refine po_mv rfl (by conv => lhs; whnf) ?_ | refine po_s rfl rfl rfl ?_
      refine po_lit rfl ?_
      refine po_g rfl ((pick_drw (T := T) (hT := hT) hb (fun s => decide (s.length ≤ 20)) rfl (by show 0 < 5; decide)).use ⟨by simp only [PV.lw, PC.lw]; exact allS_lw (p := fun s => decide (s.length ≤ 20)) rfl, trivial⟩ hc1 (by omega) (p := 0) rfl) ?_
      rintro x bx n3 l3 ⟨c3, rfl, hc3, s, rfl, hs, hN3⟩
      refine po_g rfl (str_g (T := T) (hT := hT) s) ?_
      rintro x b' n4 l4 ⟨hb4, rfl, hn4, hl4⟩
      subst hb4; subst hn4; subst hl4
      refine po_stw (p := 1) (cs := vL 5 0 0 s) rfl rfl rfl rfl rfl rfl ?_
      repeat' (first | refine po_mv rfl (by conv => lhs; whnf) ?_ | refine po_s rfl rfl rfl ?_ | refine po_box rfl ?_ | refine po_zero ?_ | refine po_nil ?_)
      exact mw_ret ⟨.inr rfl, [.ag (vL 5 0 0 s)], rfl, dvR_of hc3 (leaf_new (hN1.up.pass hN3)) leaf_er (leaf_gd (i64ok_n (by omega)) (i64ok_n (by omega)) (i64ok_n (by omega)) (of_decide_eq_true hs) (by decide)) rowT1 (Nat.zero_le _)⟩
    · refine mw_seq (mw_ops ?_)
      by_cases k5 : r = 5
      · refine po_yes rfl rfl (beq_iff_eq.2 k5) ?_
        repeat' (first | refine po_mv rfl (by conv => lhs; whnf) ?_ | refine po_s rfl rfl rfl ?_ | refine po_box rfl ?_ | refine po_zero ?_ | refine po_nil ?_)
        refine mw_cond (t := true) rfl (fun _ => ?_) (fun h => absurd h (by decide))
        refine mw_seq (mw_ops ?_)
        first | refine po_mv rfl (by conv => lhs; whnf) ?_ | refine po_s rfl rfl rfl ?_
        refine po_g rfl ((some_drw (T := T) (hT := hT) hb).use trivial hc1 hn1 (p := 0) rfl) ?_
        rintro x bx n3 l3 ⟨c3, rfl, hc3, s, rfl, hs, hN3⟩
        refine po_g rfl (str_g (T := T) (hT := hT) s) ?_
        rintro x b' n4 l4 ⟨hb4, rfl, hn4, hl4⟩
        subst hb4; subst hn4; subst hl4
        refine po_stw (p := 1) (cs := vL 5 0 0 s) rfl rfl rfl rfl rfl rfl ?_
        repeat' (first | refine po_mv rfl (by conv => lhs; whnf) ?_ | refine po_s rfl rfl rfl ?_ | refine po_box rfl ?_ | refine po_zero ?_ | refine po_nil ?_)
        exact mw_ret ⟨.inr rfl, [.ag (vL 5 0 0 s)], rfl, dvR_of hc3 (leaf_new (hN1.pass hN3)) leaf_er (leaf_gd (i64ok_n (by omega)) (i64ok_n (by omega)) (i64ok_n (by omega)) (by omega) (by decide)) rowT1 (Nat.zero_le _)⟩
      · refine po_no rfl rfl (beq_eq_false_iff_ne.2 k5) ?_
        repeat' (first | refine po_mv rfl (by conv => lhs; whnf) ?_ | refine po_s rfl rfl rfl ?_ | refine po_box rfl ?_ | refine po_zero ?_ | refine po_nil ?_)
        refine mw_cond (t := false) rfl (fun h => absurd h (by decide)) (fun _ => ?_)
        refine mw_skip ?_
        exact ⟨c1, hc1, ⟨rfl, rfl, trivial⟩, rfl, hN1⟩
  rintro tm bx n1 l1 ⟨c1, hc1, ht, hbx, hN1⟩
  obtain ⟨tm0, rfl⟩ := has_ups ht
  simp only at hbx hN1; subst hbx
  clear ht
  refine mw_seq (mw_ops ?_)
  iterate 2 (first | refine po_mv rfl (by conv => lhs; whnf) ?_ | refine po_s rfl rfl rfl ?_)
  refine po_g rfl ((hBl 1000).use ⟨trivial, trivial⟩ hc1 (hN1.n2 hn) (p := 0) rfl) ?_
  rintro x bx n2 l2 ⟨c2, rfl, hc2, v, rfl, v0, v1, hN2⟩
  have hN12 := hN1.pass hN2
  have hv : i64B v = true := by unfold i64B; rw [decide_eq_true (by omega), decide_eq_true (by omega)]; rfl
  have hal : allI i64B [[pI 0], [pI 1], [pI 23], [pI 24], [pI 255], [pI 256], [pI 65535], [pI 65536], [pI 4294967295], [pI 4294967296], [pI (-1)], [pI (-24)], [pI (-25)], [pI (-256)], [pI (-257)], [pI 9223372036854775807], [pI (-9223372036854775808)], [pI v]] = true := by
    show (true && (true && (true && (true && (true && (true && (true && (true && (true && (true && (true && (true && (true && (true && (true && (true && (true && (i64B v && true)))))))))))))))))) = true
    rw [hv]; rfl
  refine po_lit (es := [[pI 0], [pI 1], [pI 23], [pI 24], [pI 255], [pI 256], [pI 65535], [pI 65536], [pI 4294967295], [pI 4294967296], [pI (-1)], [pI (-24)], [pI (-25)], [pI (-256)], [pI (-257)], [pI 9223372036854775807], [pI (-9223372036854775808)], [pI v]]) rfl ?_
  refine po_g rfl ((pickI_drw (T := T) (hT := hT) hb i64B hal (by show 0 < 18; decide)).use ⟨by simp only [PV.lw, PC.lw]; exact allI_lw hal, trivial⟩ hc2 (by have := hN12.n2 hn; omega) (p := 0) rfl) ?_
  rintro x bx n3 l3 ⟨c3, rfl, hc3, q, rfl, hq, hN3⟩
  refine po_g rfl (int_g (T := T) (hT := hT) q) ?_
  rintro x b' n4 l4 ⟨hb4, rfl, hn4, hl4⟩
  subst hb4; subst hn4; subst hl4
  refine po_stw (p := 1) (cs := vL 3 q 0 []) rfl rfl rfl rfl rfl rfl ?_
  repeat' (first | refine po_mv rfl (by conv => lhs; whnf) ?_ | refine po_s rfl rfl rfl ?_ | refine po_box rfl ?_ | refine po_zero ?_ | refine po_nil ?_)
  exact mw_ret ⟨.inr rfl, [.ag (vL 3 q 0 [])], rfl, dvR_of hc3 (leaf_new (hN12.up.pass hN3)) leaf_er (leaf_gd (i64ok_n (by omega)) (i64B_ok hq) (i64ok_n (by omega)) (Nat.zero_le _) (by decide)) rowT1 (Nat.zero_le _)⟩
end Go.Proofs.YthngfihpnfoppaaDoor

namespace Go.Proofs.YthngfihpnfoppaaDoor
open Go.RowKit
variable {T : World → Prop} {hT : Low ngl T}
attribute [local irreducible] po mw pt

def mkB : Nat → Nat
  | 0 => 20
  | d + 1 => 40 + 3 * mkB d
/-- kids that are drawn: rows, what they are, how great -/
structure Kd (B : Nat) (rows : List (List PC)) (ks : List V) : Prop where
  er : erLL rows = vK ks
  wf : V.wfs ks
  few : V.fews ks
  bulk : V.bulks ks ≤ B
theorem Kd.nil : Kd 0 [] [] := ⟨rfl, trivial, trivial, Nat.le_refl _⟩
theorem Kd.len {B : Nat} {rows : List (List PC)} {ks : List V} (h : Kd B rows ks) : rows.length = ks.length := by
  have := congrArg List.length h.er
  rw [erLL_map, List.length_map, vK_len] at this; exact this
theorem Kd.wid {B : Nat} {rows : List (List PC)} {ks : List V} (h : Kd B rows ks) : ∀ e ∈ rows, e.length = 5 := fun e he => by
  have h1 : erL e ∈ vK ks := by rw [← h.er, erLL_map]; exact List.mem_map_of_mem he
  have := vK_wid ks _ h1
  rw [erL_map, List.length_map] at this; exact this
theorem bulks_app : ∀ a b : List V, V.bulks (a ++ b) = V.bulks a + V.bulks b
  | [], b => by simp [V.bulks]
  | x :: a, b => by simp only [List.cons_append, V.bulks, bulks_app a b]; omega
theorem Kd.app {B B' : Nat} {rows ds : List (List PC)} {ks ls : List V} (h : Kd B rows ks) (k : Kd B' ds ls) : Kd (B + B') (rows ++ ds) (ks ++ ls) := by
  refine ⟨?_, ?_, ?_, ?_⟩
  · rw [erLL_map, List.map_append, ← erLL_map, ← erLL_map, h.er, k.er]; simp [vK]
  · rw [V.wfs_all] at *
    have h1 := V.wfs_all.1 h.wf; have h2 := V.wfs_all.1 k.wf
    intro v hv; exact (List.mem_append.1 hv).elim (h1 v) (h2 v)
  · have h1 := V.fews_all.1 h.few; have h2 := V.fews_all.1 k.few
    rw [V.fews_all]
    intro v hv; exact (List.mem_append.1 hv).elim (h1 v) (h2 v)
  · rw [bulks_app]; have := h.bulk; have := k.bulk; omega
theorem Kd.one {B : Nat} {cs : List PC} {v : V} (he : erL cs = vC v) (hg : Gd B v) : Kd B [cs] [v] := by
  refine ⟨?_, ⟨hg.wf, trivial⟩, ⟨hg.few, trivial⟩, by simp only [V.bulks]; have := hg.bulk; omega⟩
  show [erL cs] = [v.d.pc]
  rw [he, V.pc_eq]
theorem Kd.mono {B B' : Nat} {rows : List (List PC)} {ks : List V} (h : Kd B rows ks) (k : B ≤ B') : Kd B' rows ks := ⟨h.er, h.wf, h.few, Nat.le_trans h.bulk k⟩
theorem Kd.gd {B B' : Nat} {rows : List (List PC)} {ks : List V} (h : Kd B rows ks) {k n e : Int} {s : List UInt8} (hk : i64ok k) (hn : i64ok n) (he : i64ok e) (h8 : k = 8 → ks.length ≤ 8) (hl : ks.length ≤ 4294967295) (hs : s.length ≤ 4294967295) (hb : s.length + ks.length + B ≤ B') : Gd B' (.mk k n e s ks) :=
  ⟨⟨hk, hn, he, by unfold strok; omega, by omega, h.wf⟩, ⟨h8, h.few⟩, by simp only [V.bulk]; have := h.bulk; omega⟩
theorem row_er {B : Nat} {t : Nat} {rows : List (List PC)} {ks : List V} (h : Kd B rows ks) (k n e : Int) (s : List UInt8) : erL [pI k, pI n, pI e, pS s, .sl t rows] = vC (.mk k n e s ks) := by
  show [pI k, pI n, pI e, pS s, .sl 0 (erLL rows)] = _
  rw [h.er]; rfl
theorem er_len {cs : List PC} {v : V} (h : erL cs = vC v) : cs.length = 5 := by
  have := congrArg List.length h
  rw [erL_map, List.length_map] at this; exact this
theorem set0 {c c' : List PC} {r : List (List PC)} : (c :: r).set 0 c' = c' :: r := rfl
theorem keep_t {tm : Nat → PV} {c c' : List PC} {r : List (List PC)} {k p o : Nat} (h : ev tm (.t k) = .ref (p + 1) o) : keepX (ev tm) (c :: r) ((c :: r).set 0 c') (.t k) := by
  unfold keepX; rw [h]; rfl
/-- the kids' row of a value in the second box -/
def zV : List PC := [pI 0, pI 0, pI 0, pS [], .sl 1 []]
def vRow (k t : Nat) (rows : List (List PC)) : List PC := [pI k, pI 0, pI 0, pS [], .sl t rows]
theorem NR.row0 {nt n : Nat} {live l : List Nat} {k : Nat} (h : NR nt live n l []) : NR nt live n l (vRow k 1 []) := h.plain rfl rfl
/-- two kids more, or one -/
theorem NR.kids {nt n n2 t k : Nat} {live l l2 : List Nat} {rows ds : List (List PC)} (h2 : 2 ≤ nt) (ht : t = 1 ∧ rows = [] ∨ 2 ≤ t) (h : NR nt live n l (vRow k t rows)) (hd : NR n l n2 l2 ds.flatten) : NR nt live (n2 + 1) (n2 :: l2.filter (· != t)) (vRow k n2 (rows ++ ds)) := by
  have := NR.app (a := [pI k, pI 0, pI 0, pS []]) (b := []) (rows := rows) (ds := ds) h2 ht (h.trans hd)
  exact this
theorem NR.rowt {nt n t k : Nat} {live l : List Nat} {rows : List (List PC)} (ht : t = 1 ∧ rows = [] ∨ 2 ≤ t) (h : NR nt live n l (vRow k t rows)) : t = 1 ∨ t ∈ l := by
  rcases ht with ⟨h1, _⟩ | h2
  · exact .inl h1
  · exact .inr (h.mem t (by unfold vRow; simp [toksL, PC.toks, pI, pS, h2])).2.2
theorem NR.rowt2 {nt n n2 t k : Nat} {live l l2 : List Nat} {rows : List (List PC)} {cs : List PC} (ht : t = 1 ∧ rows = [] ∨ 2 ≤ t) (h : NR nt live n l (vRow k t rows)) (h2 : NR n l n2 l2 cs) : t = 1 ∨ t ∈ l2 := by
  rcases ht with ⟨h1, _⟩ | h3
  · exact .inl h1
  · obtain ⟨a, b, c⟩ := h.mem t (by unfold vRow; simp [toksL, PC.toks, pI, pS, h3])
    exact .inr (h2.keep t c h3 b)
theorem litP1 {e : X → PV} {x : X} {a : List PC} {n : Nat} (hx : pcells (e x) = some a) (ha : a.length = n) : litP e n [x] = some [a] := by simp only [litP, hx, ha, if_true]
theorem litP2 {e : X → PV} {x y : X} {a b : List PC} {n : Nat} (hx : pcells (e x) = some a) (hy : pcells (e y) = some b) (ha : a.length = n) (hb : b.length = n) : litP e n [x, y] = some [a, b] := by simp only [litP, hx, hy, ha, hb, if_true]
section
variable {E : Env} {K : St → Prop} {tm : Nat → PV} {bx : List (List PC)} {nt d : Nat} {live : List Nat} {r : List MOpr} {c : List X}
theorem po_litq {n : Nat} {xs : List X} {es : List (List PC)} (hq : litP (ev tm) n xs = some es) (h : po E r K ⟨up d (.d (.sl 0 es)) tm, bx, nt, live⟩) : po E (⟨some d, .litq n xs, none, c⟩ :: r) K ⟨tm, bx, nt, live⟩ :=
  po_q rfl (by show (litP (ev tm) n xs).map _ = _; rw [hq]; rfl) h
end
end Go.Proofs.YthngfihpnfoppaaDoor
