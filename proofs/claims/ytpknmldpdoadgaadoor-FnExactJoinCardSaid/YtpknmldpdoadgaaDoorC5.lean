/- For all arguments the program's Join returns what the reference's Join returns, leaves its arguments as they were, and returns memory of its own. -/
import Derived.Test.YtpknmldpdoadgaaDoorC4
import Derived.Lib.AppendZeros
import Derived.Test.YtpknmldpdoadgaaDoorChecked
import Derived.KernelRfl
import Derived.ProofKit
import Derived.Test.YtpknmldpdoadgaaDoorRows
import Derived.HandedShaped
import Derived.Shelf.Vars
import Derived.Lay
import Derived.LaidMore
import Derived.Stop.Joined
import Derived.Lib.LaidU8T
import Derived.OpenShut
import Derived.ShutString
import Derived.ChangeOld
import Derived.Lib.SmallJoins
import Derived.Test.YtpknmldpdoadgaaDoorTie
import Derived.Test.YtpknmldpdoadgaaDoorCards
import Derived.SevenTiedAt

/- impl.ownShape, checkedShape on values without memory. -/
namespace Go.Proofs.YtpknmldpdoadgaaDoor
open Go.RowKit
variable {T : World → Prop} {hT : Low ngl T}

section
variable {E : Env} {d : Nat} {r : List MOpr} {K : St → Prop} {tm : Nat → PV} {bx : List (List PC)} {nt : Nat} {live : List Nat}
/-- a new variable -/
theorem po_new {n : Nat} {z : List Value} {x : X} {cs : List PC} {c : List X} (hx : pcells (ev (up d (.ref bx.length 0) tm) x) = some cs) (hn : cs.length = n) (hz : z.length = n) (hc : c.all (apartX (ev (up d (.ref bx.length 0) tm)) (.t d)) = true)
    (h : po E r K ⟨up d (.ref bx.length 0) tm, bx ++ [cs], nt, live⟩) : po E (⟨some d, .zero z, none, []⟩ :: ⟨none, .store n (.t d) x, none, c⟩ :: r) K ⟨tm, bx, nt, live⟩ := by
  refine po_zero ?_
  have hz0 : (bx ++ [z.map ofC])[bx.length]? = some (z.map ofC) := by rw [List.getElem?_append_right (Nat.le_refl _), Nat.sub_self]; rfl
  have ha : ev (up d (.ref bx.length 0) tm) (.t d) = .ref bx.length 0 := by
    show up d (.ref bx.length 0) tm d = _
    rw [← up_eq]; exact if_pos rfl
  refine po_store ha hx hz0 ⟨hn, by rw [List.length_map]; omega⟩ hc ?_
  have e1 : spl (z.map ofC) 0 cs = cs := by
    unfold spl
    rw [List.take_zero, List.nil_append, List.drop_of_length_le (by rw [List.length_map]; omega), List.append_nil]
  have e2 : (bx ++ [z.map ofC]).set bx.length cs = bx ++ [cs] := by
    rw [List.set_append_right _ _ (Nat.le_refl _), Nat.sub_self]; rfl
  rw [e1, e2]; exact h
/-- a load from a box whose place is told by a proof -/
theorem po_ld {ag : Bool} {n p o : Nat} {x : X} {c : List X} {g : Option (Nat × Bool)} {cs : List PC} {v : PV} (hg : gd g tm = some true) (hx : ev tm x = .ref p o) (hb : bx[p]? = some cs) (hn : o + n ≤ cs.length) (hv : ldv ag ((cs.drop o).take n) = some v)
    (h : po E r K ⟨up d v tm, bx, nt, live⟩) : po E (⟨some d, .load ag n x, g, c⟩ :: r) K ⟨tm, bx, nt, live⟩ := by
  refine po_q hg ?_ h
  simp only [qf, hx, hb, if_pos hn, hv]
end
theorem shO_toks (x : Sh) (c k : PC) : toksL (shO x c k) = toksL [c, k] := by simp [shO, toksL, PC.toks, pI]
theorem shO_owned (x : Sh) (c k : PC) : ownedL (shO x c k) = ownedL [c, k] := by simp [shO, ownedL, PC.owned, pI]
theorem row_of {c : PC} {es : List (List PC)} (h : c.er = .sl 0 es) : ∃ t rows, c = .sl t rows ∧ erLL rows = es := by
  cases c with
  | v x => simp [PC.er] at h
  | sl t r => simp only [PC.er, PC.sl.injEq, true_and] at h; exact ⟨t, r, rfl, h⟩

theorem po_rw {E : Env} {d : Nat} {c : List X} {r : List MOpr} {K : St → Prop} {tm : Nat → PV} {bx : List (List PC)} {nt : Nat} {live : List Nat} {f : Nat} {xs : List X} {args : List PV} {es : List (List PC)} (hd : PV.dats (xs.map (ev tm)) = some args) (hF : FnO E f args (.d (.sl 0 es)))
    (h : ∀ (t : Nat) (rows : List (List PC)) (nt' : Nat), erLL rows = es → nt + 2 ≤ nt' → PC.owned (.sl t rows) = true → (PC.toks (.sl t rows)).Nodup → (∀ s ∈ PC.toks (.sl t rows), nt ≤ s ∧ s < nt') → po E r K ⟨up d (.d (.sl t rows)) tm, bx, nt', PC.toks (.sl t rows) ++ live⟩) : po E (⟨some d, .call f xs, none, c⟩ :: r) K ⟨tm, bx, nt, live⟩ := by
  refine po_own hd hF ?_
  rintro (c | cs | _ | _ | _ | _) nt2 hx hnd hmem hnt2 hown <;> try exact hown.elim
  · simp only [PV.dat, Option.some.injEq, PV.d.injEq] at hx
    obtain ⟨t, rows, rfl, hr⟩ := row_of hx
    exact h t rows nt2 hr hnt2 hown hnd hmem
  · simp [PV.dat] at hx
def OwF (x : Sh) (tr : Nat) (rows : List (List PC)) (i : Nat) : List (Nat × PV) := [(1, .ref 0 0), (2, .ref 1 0), (3, .d (.sl tr rows)), (12, .d (.sl 0 (shK x.kids))), (13, .d (pI x.kids.length)), (14, .d (pI i))]
def OwI (x : Sh) (tk : Nat) (rk : List (List PC)) (m : Nat) (s : St) : Prop := ∃ (i tr : Nat) (rows rest : List (List PC)), i ≤ x.kids.length ∧ m = x.kids.length - i ∧ has s.tm (OwF x tr rows i) ∧ s.bx = shO x (.sl tk rk) (.sl 0 (shK x.kids)) :: zSh :: rest ∧ erLL rows = shK (x.kids.take i) ∧ 2 ≤ tr ∧ 2 ≤ s.nt ∧ OwnL s.nt s.live [.sl tk rk, .sl tr rows]
theorem own_step {n : Nat} (ih : ∀ x : Sh, x.nodes ≤ n → x.bulk ≤ 4294967280 → FnO (env T hT) 47 [.ag (shC x)] (.ag (shC x))) (x : Sh) (hkl : x.keys.length ≤ 4294967280) (hkk : x.kids.length ≤ 4294967280)
    (hkid : ∀ (j : Nat) (h : j < x.kids.length), x.kids[j].nodes ≤ n ∧ x.kids[j].bulk ≤ 4294967280) : FnO (env T hT) 47 [.ag (shC x)] (.ag (shC x)) := by
  refine fn_of (look_env lk_i_ownShape) (by show 1 ≤ 27; decide) fun B hB => ?_
  unfold m_i_ownShape
  refine mw_seq (mw_ops ?_)
  refine po_box rfl ?_
  refine po_zero ?_
  refine po_nil ?_
  refine mw_seq (mw_ops ?_)
  iterate 2 (refine po_q rfl rfl ?_)
  refine po_rw (args := [.d (pSs x.keys)]) (es := pSr x.keys) (congrArg (fun l => some [PV.d l]) (pSs_er x.keys)) (clone_fn x.keys (by omega)) ?_
  intro tk rk nt2 hrk hnt2 hown hnd hmem
  replace hnt2 : 2 + 2 ≤ nt2 := hnt2
  refine po_q rfl rfl ?_
  refine po_store rfl rfl rfl ⟨rfl, Nat.le_of_ble_eq_true rfl⟩ rfl ?_
  refine po_nil ?_
  refine mw_seq (mw_ops ?_)
  refine po_lit rfl ?_
  refine po_q rfl rfl ?_
  refine po_nil ?_
  have hO0 : OwnL (nt2 + 1) (nt2 :: (PC.toks (.sl tk rk) ++ [])) [.sl tk rk, .sl nt2 []] := by
    have e : toksL [PC.sl tk rk, .sl nt2 []] = PC.toks (.sl tk rk) ++ [nt2] := by
      simp only [toksL, toks_sl2 (show 2 ≤ nt2 by omega), toksLL, List.append_nil]
    refine ⟨?_, ?_, fun t ht => ?_⟩
    · simp only [ownedL, owned_sl2 (show 2 ≤ nt2 by omega), Bool.and_true]
      rw [show PC.owned (.sl tk rk) = true from hown]; rfl
    · rw [e, List.nodup_append]
      refine ⟨hnd, by simp, fun a ha b hb hab => ?_⟩
      rw [List.mem_singleton] at hb; subst hb; subst hab
      have := hmem a ha; omega
    · rw [e] at ht
      rcases List.mem_append.1 ht with ht | ht
      · have := hmem t ht; exact ⟨List.mem_cons_of_mem _ (List.mem_append.2 (.inl ht)), by omega⟩
      · rw [List.mem_singleton] at ht; subst ht; exact ⟨List.mem_cons_self, by omega⟩
  refine mw_cut (fun s => ∃ m, OwI x tk rk m s ∧ m = 0) ?_ ?_
  · refine mw_seq (mw_ops ?_)
    iterate 4 (refine po_q rfl rfl ?_)
    refine po_nil ?_
    refine mw_block ?_
    refine mw_while (OwI x tk rk) x.kids.length ⟨0, nt2, [], [], Nat.zero_le _, by simp, ⟨rfl, rfl, rfl, rfl, congrArg (fun n : Nat => PV.d (pI n)) (shK_len x.kids), rfl, trivial⟩, rfl, rfl, by omega, by show 2 ≤ nt2 + 1; omega, hO0⟩ ?_
    clear hO0
    rintro m tm bx nt live ⟨i, tr, rows, rest, hi, rfl, ht, hbx, hr, h2, hnt, hO⟩
    obtain ⟨tm0, rfl⟩ := has_ups ht
    simp only at hbx hnt hO; subst hbx
    refine mw_seq (mw_ops ?_)
    refine po_b rfl rfl (fun b1 hb1 => ?_)
    refine po_nil ?_
    refine mw_seq (mw_cond rfl (fun hc => ?_) (fun hc => ?_))
    · have hlt : i < x.kids.length := by subst hb1; have := of_decide_eq_true hc; omega
      refine mw_skip ?_
      refine mw_seq (mw_block (mw_seq (mw_ops ?_)))
      refine po_ix (es := shK x.kids) (e := shC x.kids[i]) rfl rfl rfl ⟨by omega, by rw [Int.toNat_natCast]; exact shK_get hlt⟩ rfl ?_
      refine po_q rfl rfl ?_
      refine po_new (cs := shC x.kids[i]) rfl rfl rfl rfl ?_
      refine po_nil ?_
      refine mw_ops ?_
      refine po_q rfl rfl ?_
      refine po_ld (v := .ag (shC x.kids[i])) (cs := shC x.kids[i]) rfl rfl (by rw [List.getElem?_append_right (Nat.le_refl _), Nat.sub_self]; rfl) (Nat.le_refl 6) rfl ?_
      refine po_sh (shC_arg _) (ih _ (hkid i hlt).1 (hkid i hlt).2) ?_
      intro c0 c1 c2 c3 c4 c5 nt' hx hnt3 hN
      refine po_lit rfl ?_
      have hrl := erLL_len hr
      rw [shK_len, List.length_take] at hrl
      refine po_app (t := tr) (es := rows) (ds := [[c0, c1, c2, c3, c4, c5]]) rfl rfl (.inr ?_) (by rw [List.length_singleton]; omega) (by simp) (erLL_wid hr (shK_wid _)) ?_
      · exact List.mem_cons_of_mem _ (List.mem_append.2 (.inr (hO.mem tr (by simp only [toksL, toks_sl2 h2]; simp)).1))
      refine po_q rfl rfl ?_
      refine po_nil ?_
      refine mw_ops ?_
      iterate 2 (refine po_q rfl rfl ?_)
      refine po_nil ?_
      refine ⟨x.kids.length - (i + 1), by omega, i + 1, nt' + 1, rows ++ [[c0, c1, c2, c3, c4, c5]], rest ++ [shC x.kids[i]], hlt, rfl, ⟨rfl, rfl, rfl, rfl, rfl, ?_, trivial⟩, rfl, ?_, by omega, by show 2 ≤ nt' + 1 + 1; omega, ?_⟩
      · show PV.d (.v (.int .i64 (IntKind.wrap .i64 ((i : Int) + 1)))) = _
        rw [wrap_lt (by omega) (by omega)]; rfl
      · rw [erLL_append, hr, shK_take hlt, ← hx]; rfl
      · have h1 := hO.push (nt' := nt' + 1) (a := [.sl tk rk]) (b := []) h2 (by omega) hN.own hN.nd (fun t ht => ⟨(hN.mem t ht).1, by have := (hN.mem t ht).2; omega⟩) (by omega)
        refine h1.mono (Nat.le_refl _) fun t ht _ => ?_
        rcases List.mem_cons.1 ht with h | h
        · subst h; exact List.mem_cons_self
        · obtain ⟨h3, h4⟩ := List.mem_filter.1 h
          exact List.mem_cons_of_mem _ (List.mem_filter.2 ⟨List.mem_cons_of_mem _ h3, h4⟩)
    · have hge : i = x.kids.length := by subst hb1; have := of_decide_eq_false hc; omega
      refine mw_exit ?_
      exact ⟨0, ⟨i, tr, rows, rest, hi, by omega, ⟨rfl, rfl, rfl, rfl, rfl, rfl, trivial⟩, rfl, hr, h2, hnt, hO⟩, rfl⟩
  clear hO0
  rintro tm bx nt live ⟨m, ⟨i, tr, rows, rest, hi, rfl, ht, hbx, hr, h2, hnt, hO⟩, hm⟩
  obtain ⟨tm0, rfl⟩ := has_ups ht
  simp only at hbx hnt hO; subst hbx
  have hie : i = x.kids.length := by omega
  rw [hie, List.take_length] at hr
  refine mw_seq (mw_ops ?_)
  iterate 2 (refine po_q rfl rfl ?_)
  refine po_store rfl rfl rfl ⟨rfl, Nat.le_of_ble_eq_true rfl⟩ rfl ?_
  refine po_nil ?_
  refine mw_seq (mw_ops ?_)
  refine po_q rfl rfl ?_
  refine po_store rfl rfl rfl ⟨rfl, Nat.le_of_ble_eq_true rfl⟩ rfl ?_
  refine po_nil ?_
  refine mw_ret ⟨.inr rfl, _, rfl, congrArg (fun l => some (PV.ag l)) (shO_row (x := x) hrk hr), ?_, ?_, ?_⟩
  · show (toksL (shO x (.sl tk rk) (.sl tr rows))).Nodup
    rw [shO_toks]; exact hO.nd
  · intro t ht
    have : t ∈ toksL (shO x (.sl tk rk) (.sl tr rows)) := ht
    rw [shO_toks] at this; exact (hO.mem t this).1
  · show ownedL (shO x (.sl tk rk) (.sl tr rows)) = true
    rw [shO_owned]; exact hO.own
theorem own_fn : ∀ (n : Nat) (x : Sh), x.nodes ≤ n → x.bulk ≤ 4294967280 → FnO (env T hT) 47 [.ag (shC x)] (.ag (shC x))
  | 0, x, hn, _ => by obtain ⟨k, l, h, ks, m, kids⟩ := x; simp [Sh.nodes] at hn
  | n + 1, x, hn, hb => by
    obtain ⟨k, l, h, ks, m, kids⟩ := x
    have hb' := hb
    simp only [Sh.bulk] at hb'
    refine own_step (own_fn n) _ (by show ks.length ≤ _; omega) (by show kids.length ≤ _; omega) fun j hj => ?_
    have hj' : j < kids.length := hj
    have h1 := Sh.nodes_get kids j hj'
    simp only [Sh.nodes] at hn
    exact ⟨by show kids[j].nodes ≤ n; omega, Sh.bulk_get (by omega) j hj'⟩
end Go.Proofs.YtpknmldpdoadgaaDoor

/- impl.joinedMaps$1 (the closure add) on values without memory. -/
namespace Go.Proofs.YtpknmldpdoadgaaDoor
open Go.RowKit
variable {T : World → Prop} {hT : Low ngl T}

theorem get_last {α : Type} (l : List α) (x : α) : (l ++ [x])[l.length]? = some x := by rw [List.getElem?_append_right (Nat.le_refl _), Nat.sub_self]; rfl
theorem get_last2 {α : Type} (l : List α) (x y : α) : (l ++ [x] ++ [y])[l.length]? = some x := by rw [List.getElem?_append_left (by simp)]; exact get_last l x
theorem set_last2 {α : Type} (l : List α) (x y z : α) : (l ++ [x] ++ [y]).set l.length z = l ++ [z] ++ [y] := by
  rw [List.set_append_left _ _ (by simp), List.set_append_right _ _ (Nat.le_refl _), Nat.sub_self]; rfl
theorem shk_arg (x : Sh) (key : List UInt8) : PV.dats [.ag (shC x), .d (pS key)] = some [.ag (shC x), .d (pS key)] := congrArg (fun l => some [PV.ag l, PV.d (pS key)]) (shC_er x)

/-- the names of two rows that may be appended to -/
def Nm (nt : Nat) (live : List Nat) (t s : Nat) : Prop := (t = 1 ∨ 2 ≤ t ∧ t ∈ live ∧ t < nt) ∧ (s = 1 ∨ 2 ≤ s ∧ s ∈ live ∧ s < nt) ∧ (t = s → t = 1) ∧ 2 ≤ nt
theorem Nm.mono {nt nt' t s : Nat} {live live' : List Nat} (h : Nm nt live t s) (hn : nt ≤ nt') (hl : ∀ x ∈ live, x ∈ live') : Nm nt' live' t s :=
  ⟨h.1.imp id fun h => ⟨h.1, hl _ h.2.1, by omega⟩, h.2.1.imp id fun h => ⟨h.1, hl _ h.2.1, by omega⟩, h.2.2.1, by have := h.2.2.2; omega⟩
theorem Nm.app {nt t s : Nat} {live : List Nat} (h : Nm nt live t s) : t = 1 ∨ t ∈ live := h.1.imp id fun h => h.2.1
theorem Nm.app2 {nt t s : Nat} {live : List Nat} (h : Nm nt live t s) : s = 1 ∨ s ∈ nt :: live.filter (· != t) := by
  rcases h.2.1 with h1 | ⟨h1, h2, h3⟩
  · exact .inl h1
  · refine .inr (List.mem_cons_of_mem _ (List.mem_filter.2 ⟨h2, ?_⟩))
    have : s ≠ t := fun e => by have := h.2.2.1 e.symm; omega
    simpa using this
theorem Nm.two {nt t s : Nat} {live : List Nat} (h : Nm nt live t s) : Nm (nt + 1 + 1) ((nt + 1) :: (nt :: live.filter (· != t)).filter (· != s)) nt (nt + 1) := by
  have h2 := h.2.2.2
  have hs : s < nt := by rcases h.2.1 with h | h <;> omega
  refine ⟨.inr ⟨h2, List.mem_cons_of_mem _ (List.mem_filter.2 ⟨List.mem_cons_self, ?_⟩), by omega⟩, .inr ⟨by omega, List.mem_cons_self, by omega⟩, fun e => by omega, by omega⟩
  have : nt ≠ s := by omega
  simpa using this

/-- what the program's Join gives -/
def JnQ (T : World → Prop) (hT : Low ngl T) (N : Nat) : Prop := ∀ a b : Sh, a.nodes ≤ N → a.wf → b.wf → a.bulk ≤ 10200 → b.bulk ≤ 10200 → FnO (env T hT) 8 [.ag (shC a), .ag (shC b)] (.ag (shC (joinS N a b)))

def AdI (a b : Sh) (ks : List (List UInt8)) (m : Int) (f : List UInt8 → Sh) (nt : Nat) (live : List Nat) (bx : List (List PC)) : Prop := ∃ (tk tr : Nat) (rows rest : List (List PC)), bx = shC a :: shC b :: zSh :: oC (.sl tk (pSr ks)) m (.sl tr rows) :: rest ∧ erLL rows = shK (ks.map f) ∧ Nm nt live tk tr

set_option maxHeartbeats 1000000 in
theorem add_fn {N : Nat} (hJ : JnQ T hT N) (a b : Sh) (key : List UInt8) (ks : List (List UInt8)) (m : Int) (tk tr : Nat) (rows rest : List (List PC)) (nt : Nat) (live : List Nat) (hn : a.nodes ≤ N + 1) (hwa : a.wf) (hwb : b.wf) (hba : a.bulk ≤ 10200) (hbb : b.bulk ≤ 10200)
    (hka : a.keys.length ≤ a.kids.length) (hkb : b.keys.length ≤ b.kids.length) (hkey : key ∈ a.keys ∨ key ∈ b.keys) (hks : ks.length ≤ 1000) (hr : erLL rows = shK (ks.map (jKid (joinS N) a b))) (hN : Nm nt live tk tr) :
    FnG (env T hT) 71 [.d (pS key), .ref 0 0, .ref 1 0, .ref 3 0] (shC a :: shC b :: zSh :: oC (.sl tk (pSr ks)) m (.sl tr rows) :: rest) nt live (fun _ bx' nt' live' => AdI a b (ks ++ [key]) m (jKid (joinS N) a b) nt' live' bx') := by
  have hla := (Sh.lens hba).1
  have hlb := (Sh.lens hbb).1
  have hfa := field_fn (T := T) (hT := hT) a key (by omega) hka
  have hfb := field_fn (T := T) (hT := hT) b key (by omega) hkb
  generalize hja : decide (0 ≤ ixF a.keys key 0) = ja at hfa
  generalize hjb : decide (0 ≤ ixF b.keys key 0) = jb at hfb
  generalize hma : (ja && decide (ixF a.keys key 0 < a.must)) = ma at hfa
  generalize hmb : (jb && decide (ixF b.keys key 0 < b.must)) = mb at hfb
  refine fng_of (look_env lk_i_joinedMaps_1) (by show 4 ≤ 48; decide) fun B hB => ?_
  unfold m_i_joinedMaps_1
  refine mw_seq (mw_ops ?_)
  iterate 2 (refine po_q rfl rfl ?_)
  refine po_call (shk_arg a key) hfa ?_
  iterate 4 (refine po_q rfl rfl ?_)
  refine po_new (cs := shC (fldV a key)) rfl rfl rfl rfl ?_
  iterate 2 (refine po_q rfl rfl ?_)
  refine po_nil ?_
  refine mw_seq (mw_ops ?_)
  iterate 2 (refine po_q rfl rfl ?_)
  refine po_call (shk_arg b key) hfb ?_
  iterate 4 (refine po_q rfl rfl ?_)
  refine po_new (cs := shC (fldV b key)) rfl rfl rfl rfl ?_
  iterate 2 (refine po_q rfl rfl ?_)
  refine po_nil ?_
  generalize hB0 : (shC a :: shC b :: zSh :: oC (.sl tk (pSr ks)) m (.sl tr rows) :: rest : List (List PC)) = B0
  refine mw_cut (fun s => has s.tm [(0, .d (pS key)), (3, .ref 3 0), (5, .ref B0.length 0)] ∧ ∃ c0 c1 c2 c3 c4 c5, s.bx = B0 ++ [[c0, c1, c2, c3, c4, c5]] ++ [shC (fldV b key)] ∧ erL [c0, c1, c2, c3, c4, c5] = shC (jKid (joinS N) a b key) ∧ Nm s.nt s.live tk tr) ?_ ?_
  · refine mw_block (mw_seq (mw_ops ?_))
    cases ja
    · have h1 : ¬ 0 ≤ ixF a.keys key 0 := of_decide_eq_false hja
      have h2 : 0 ≤ ixF b.keys key 0 := by
        rcases hkey with h | h
        · exact absurd ((ixF_mem _ _ 0).2 h) h1
        · exact (ixF_mem _ _ 0).2 h
      have hjb' : jb = true := by rw [← hjb]; exact decide_eq_true h2
      subst hjb'
      repeat' (first | refine po_skip rfl ?_ | refine po_q rfl rfl ?_)
      refine po_nil ?_
      refine mw_cond (t := false) rfl (fun h => absurd h (by decide)) (fun _ => ?_)
      refine mw_seq (mw_ops ?_)
      iterate 2 (refine po_q rfl rfl ?_)
      refine po_nil ?_
      refine mw_cond (t := true) rfl (fun _ => ?_) (fun h => absurd h (by decide))
      refine mw_ops ?_
      refine po_ld (cs := shC (fldV b key)) (v := .ag (shC (fldV b key))) rfl rfl (get_last _ _) (Nat.le_refl 6) rfl ?_
      refine po_store (cs := shC (fldV b key)) rfl rfl (get_last2 _ _ _) ⟨rfl, Nat.le_of_ble_eq_true rfl⟩ rfl ?_
      refine po_nil ?_
      refine ⟨⟨rfl, rfl, rfl, trivial⟩, _, _, _, _, _, _, set_last2 _ _ _ _, ?_, hN⟩
      have : jKid (joinS N) a b key = fldV b key := by unfold jKid fldV; rw [if_neg h1, if_pos h2]
      rw [this]; exact shC_er _
    · have h1 : 0 ≤ ixF a.keys key 0 := of_decide_eq_true hja
      obtain ⟨i, hi, hil⟩ := ix_at h1 hka
      have hfva : fldV a key = a.kids[i] := by unfold fldV; rw [if_pos h1, kidAt_eq hi hil]
      cases jb
      · have h2 : ¬ 0 ≤ ixF b.keys key 0 := of_decide_eq_false hjb
        repeat' (first | refine po_skip rfl ?_ | refine po_q rfl rfl ?_)
        refine po_nil ?_
        refine mw_cond (t := false) rfl (fun h => absurd h (by decide)) (fun _ => ?_)
        refine mw_seq (mw_ops ?_)
        iterate 2 (refine po_q rfl rfl ?_)
        refine po_nil ?_
        refine mw_cond (t := false) rfl (fun h => absurd h (by decide)) (fun _ => ?_)
        refine mw_skip ?_
        refine ⟨⟨rfl, rfl, rfl, trivial⟩, _, _, _, _, _, _, rfl, ?_, hN⟩
        have : jKid (joinS N) a b key = fldV a key := by unfold jKid fldV; rw [if_pos h1, if_neg h2, if_pos h1]
        rw [this]; exact shC_er _
      · have h2 : 0 ≤ ixF b.keys key 0 := of_decide_eq_true hjb
        obtain ⟨k, hk, hkl⟩ := ix_at h2 hkb
        have hfvb : fldV b key = b.kids[k] := by unfold fldV; rw [if_pos h2, kidAt_eq hk hkl]
        repeat' (first | refine po_skip rfl ?_ | refine po_q rfl rfl ?_)
        refine po_nil ?_
        refine mw_cond (t := true) rfl (fun _ => ?_) (fun h => absurd h (by decide))
        refine mw_ops ?_
        refine po_ld (cs := shC (fldV a key)) (v := .ag (shC (fldV a key))) rfl rfl (get_last2 _ _ _) (Nat.le_refl 6) rfl ?_
        refine po_ld (cs := shC (fldV b key)) (v := .ag (shC (fldV b key))) rfl rfl (get_last _ _) (Nat.le_refl 6) rfl ?_
        refine po_sh (shC_arg2 (fldV a key) (fldV b key)) (hJ _ _ (by rw [hfva]; exact Sh.nodes_kid hn i hil) (by rw [hfva]; exact Sh.wfs_get (Sh.wf_kids hwa) i hil) (by rw [hfvb]; exact Sh.wfs_get (Sh.wf_kids hwb) k hkl) (by rw [hfva]; exact Nat.le_trans (Sh.bulk_kid i hil) hba) (by rw [hfvb]; exact Nat.le_trans (Sh.bulk_kid k hkl) hbb)) ?_
        intro c0 c1 c2 c3 c4 c5 nt' hx hnt hM
        refine po_store rfl rfl (get_last2 _ _ _) ⟨rfl, Nat.le_of_ble_eq_true rfl⟩ rfl ?_
        refine po_nil ?_
        refine ⟨⟨rfl, rfl, rfl, trivial⟩, c0, c1, c2, c3, c4, c5, set_last2 _ _ _ _, ?_, hN.mono (by show nt ≤ nt'; omega) (fun x hx => List.mem_append.2 (.inr hx))⟩
        have : jKid (joinS N) a b key = joinS N (fldV a key) (fldV b key) := by unfold jKid fldV; rw [if_pos h1, if_pos h2, if_pos h1, if_pos h2]
        rw [this]; exact hx
  rintro tm bx nt live ⟨ht, c0, c1, c2, c3, c4, c5, hbx, hx, hN⟩
  obtain ⟨tm0, rfl⟩ := has_ups ht
  simp only at hbx hN; subst hbx
  subst hB0
  refine mw_ops ?_
  iterate 6 (refine po_q rfl rfl ?_)
  refine po_ld (cs := [c0, c1, c2, c3, c4, c5]) (v := .ag [c0, c1, c2, c3, c4, c5]) rfl rfl (get_last2 _ _ _) (Nat.le_refl 6) rfl ?_
  refine po_q rfl rfl ?_
  refine po_app (t := tk) (es := pSr ks) (ds := [[pS key]]) rfl rfl hN.app (by rw [pSr_len]; simp; omega) (by simp) (pSr_wid _) ?_
  refine po_q rfl rfl ?_
  have hrl := erLL_len hr
  rw [shK_len, List.length_map] at hrl
  refine po_app (t := tr) (es := rows) (ds := [[c0, c1, c2, c3, c4, c5]]) rfl rfl hN.app2 (by rw [List.length_singleton]; omega) (by simp) (erLL_wid hr (shK_wid _)) ?_
  refine po_store rfl rfl rfl ⟨rfl, Nat.le_of_ble_eq_true rfl⟩ rfl ?_
  refine po_q rfl rfl ?_
  refine po_store rfl rfl rfl ⟨rfl, Nat.le_of_ble_eq_true rfl⟩ rfl ?_
  refine po_nil ?_
  refine ⟨.inl rfl, [], rfl, nt, nt + 1, rows ++ [[c0, c1, c2, c3, c4, c5]], rest ++ [[c0, c1, c2, c3, c4, c5]] ++ [shC (fldV b key)], ?_, ?_, hN.two⟩
  · rw [pSr_append]; rfl
  · rw [erLL_append, hr, List.map_append, shK_eq, shK_eq, List.map_append]
    show _ ++ [erL [c0, c1, c2, c3, c4, c5]] = _ ++ [shC (jKid (joinS N) a b key)]
    rw [hx]
end Go.Proofs.YtpknmldpdoadgaaDoor

/- slices.Grow of a nil row and slices.Concat of two rows of texts. -/
namespace Go.Proofs.YtpknmldpdoadgaaDoor
open Go.RowKit

set_option maxHeartbeats 1000000 in
set_option maxRecDepth 10000 in
theorem grow_any (n : Nat) (w : World) (hn : n ≤ 4294967296) :
    Calls Tryd.prog 87 #[.slice none 0 0, .int .i64 n] w fun e w' => ∃ v', e = .returned v' ∧ Below w.heap.size w w' ∧ OwnR w' w.heap.size 9 v' [] := by
  obtain ⟨i, z, g1, g2, g3, g4, g5⟩ := tyStr.info
  have h1 : ¬ ((n : Int) < 0) := by omega
  have h2 : IntKind.i64.wrap ((0 : Int) - 0) = 0 := rfl
  have h3 : IntKind.i64.wrap ((n : Int) - 0) = n := IntWalk.i64_in _ (by omega)
  by_cases h0 : n = 0
  · subst h0
    go_enter Tryd.func87, Tryd.ntmps87
    go_wp2
    go_ret
    exact ⟨_, rfl, Below.refl _ _, OwnR.nil⟩
  · have h4 : (n : Int) > 0 := by omega
    have hr := fun ty => Lib.run_append_nil_zeros (P := Tryd.prog) w 22 3 ty 9 i z .i64 .i64 tyStr.under Tryd.underlying3 g1 g2 n (by omega) (by omega) (by omega) (by rw [g4]; omega)
    have hge := grownCap_ge w n 0 9
    have hle := grownCap_le_maxLen w n 0 9 (by unfold maxLen; omega)
    obtain ⟨cap, hcap⟩ : ∃ cap, grownCap w n 0 9 = cap := ⟨_, rfl⟩
    rw [hcap] at hr hge hle
    have hown := World.ownsRow_made (base := w.heap.size) (e := 9) (size := 1) w.drew (Builtin.zeroCells z.cells n ++ Builtin.zeroCells z.cells (cap - n)) cap (by simp) hle (by rw [Array.size_append, size_zeroCells, size_zeroCells, g5]; omega)
    have hb : Below w.heap.size w (w.drew.alloc (.cells (Builtin.zeroCells z.cells n ++ Builtin.zeroCells z.cells (cap - n)) 9)) := ((Below.refl _ _).drew).alloc (by simp) _
    obtain ⟨W1, hW1⟩ : ∃ W1, w.drew.alloc (.cells (Builtin.zeroCells z.cells n ++ Builtin.zeroCells z.cells (cap - n)) 9) = W1 := ⟨_, rfl⟩
    rw [hW1] at hr hown hb
    clear hcap hW1 g1 g2 g3 g4 g5 h0
    go_enter Tryd.func87, Tryd.ntmps87
    go_wp2_with (at_builtin; refine Lib.wpList_append_run _ rfl _ _ _ _ rfl _ _ rfl rfl _ _ (hr _) ?_)
    go_ret
    exact ⟨_, rfl, hb, hown⟩

def szs (a b : Nat) : Nat → Nat
  | 0 => 0
  | 1 => a
  | _ => a + b
def ccs (a b : List (List UInt8)) : Nat → List (List UInt8)
  | 0 => []
  | 1 => a
  | _ => a ++ b
set_option maxHeartbeats 1000000 in
set_option maxRecDepth 10000 in
theorem concat_any (l1 l2 : List (List UInt8)) (v1 v2 : Value) (g o c : Nat) (w : World) (h1 : StrRow w v1 l1) (h2 : StrRow w v2 l2) (c0 : w.cell? ⟨g, o, none⟩ = some v1) (c1 : w.cell? ⟨g, o + 1, none⟩ = some v2) (hl : l1.length + l2.length ≤ 4294967290) :
    Calls Tryd.prog 73 #[.slice (some ⟨g, o, none⟩) 2 c] w fun e w' => ∃ v', e = .returned v' ∧ Below w.heap.size w w' ∧ OwnR w' w.heap.size 9 v' ((l1 ++ l2).map strV) := by
  obtain ⟨a1, k1, e1, f1⟩ := h1
  obtain ⟨a2, k2, e2, f2⟩ := h2
  have hr1 : StrRow w v1 l1 := ⟨a1, k1, e1, f1⟩
  have hr2 : StrRow w v2 l2 := ⟨a2, k2, e2, f2⟩
  subst e1; subst e2
  clear f1 f2
  have HG := fun (w : World) => Lib.hid (grow_any (l1.length + l2.length) w (by omega))
  obtain ⟨L1, hL1⟩ : ∃ L1, l1.length = L1 := ⟨_, rfl⟩
  obtain ⟨L2, hL2⟩ : ∃ L2, l2.length = L2 := ⟨_, rfl⟩
  have HL1 := Lib.hid hL1
  have HL2 := Lib.hid hL2
  rw [hL1, hL2] at HG hl
  rw [hL1] at c0 hr1
  rw [hL2] at c1 hr2
  clear hL1 hL2
  have j0 : IntKind.i64.wrap ((0 : Int) + L1) = L1 := by rw [Int.zero_add]; exact IntWalk.i64_in _ (by omega)
  have j1 : IntKind.i64.wrap ((L1 : Int) + L2) = (L1 + L2 : Nat) := by rw [← Int.natCast_add]; exact IntWalk.i64_in _ (by omega)
  have n1 : ¬ ((L1 : Int) < 0) := by omega
  have n2 : ¬ (((L1 + L2 : Nat) : Int) < 0) := by omega
  go_enter Tryd.func73, Tryd.ntmps73
  go_wp2_with fail
  go_loopw [3, 11] (fun s i wr => ∃ j : Nat, j ≤ 2 ∧ i = .int .i64 j ∧ s = .int .i64 (szs L1 L2 j : Nat) ∧ wr = w) (fun _ i _ => 2 - (intOf i).toNat)
  case atStart => exact ⟨0, by omega, rfl, rfl, rfl⟩
  case round =>
    obtain ⟨j, hj, rfl, rfl, hwr⟩ := hrel
    rw [hwr]; clear hwr
    obtain rfl | rfl | rfl : j = 0 ∨ j = 1 ∨ j = 2 := by omega
    · simp only [szs]
      go_wp2
      go_roundw
      case rel => refine ⟨1, by omega, by go_num, ?_⟩; simp [szs]
      case measure => simp [intOf]
    · simp only [szs]
      go_wp2
      go_roundw
      case rel => refine ⟨2, by omega, by go_num, ?_⟩; simp [szs]
      case measure => simp [intOf]
    · simp only [szs]
      go_wp2_with (go_at_call 87; refine (HG _).out.mono ?_; rintro e1 w1 ⟨v', rfl, hb1, hown⟩)
      go_loopw [6, 27] (fun v i wr => ∃ (j : Nat), j ≤ 2 ∧ i = .int .i64 j ∧ OwnR wr w.heap.size 9 v ((ccs l1 l2 j).map strV) ∧ Below w.heap.size w wr) (fun _ i _ => 2 - (intOf i).toNat)
      case atStart => exact ⟨0, by omega, rfl, hown, hb1⟩
      case round =>
        obtain ⟨j, hj, rfl, hown2, hb2⟩ := hrel
        have hrA := hr1.below hb2
        have hrB := hr2.below hb2
        have cA := (bcell hb2).1 g o (cell_lt c0)
        rw [c0] at cA
        have cB := (bcell hb2).1 g (o + 1) (cell_lt c1)
        rw [c1] at cB
        have hsz := hb2.size
        obtain rfl | rfl | rfl : j = 0 ∨ j = 1 ∨ j = 2 := by omega
        · go_wp2_with (at_builtin; refine wp_appS tyStr rfl rfl w.heap.size hown2 rfl hrA rfl (by simp [ccs]; have := HL1.out; omega) (by decide) hsz ?_)
          intro v' w' hown3 hgr3 _
          have hb3 := OwnR.grown hown2 hb2 hgr3 hsz
          go_wp2
          go_roundw
          case rel => exact ⟨1, by omega, by go_num, by simpa [ccs] using hown3, hb3⟩
          case measure => simp [intOf]
        · go_wp2_with (at_builtin; refine wp_appS tyStr rfl rfl w.heap.size hown2 rfl hrB rfl (by simp [ccs]; have := HL1.out; have := HL2.out; omega) (by decide) hsz ?_)
          intro v' w' hown3 hgr3 _
          have hb3 := OwnR.grown hown2 hb2 hgr3 hsz
          go_wp2
          go_roundw
          case rel => exact ⟨2, by omega, by go_num, by simpa [ccs] using hown3, hb3⟩
          case measure => simp [intOf]
        · go_wp2
          go_ret
          exact ⟨_, rfl, hb2, hown2⟩
end Go.Proofs.YtpknmldpdoadgaaDoor

/- Bodies of functions in the small language. Written by a program. -/
namespace Go.Proofs.YtpknmldpdoadgaaDoor
set_option maxRecDepth 100000
def m_slices_Contains_string_string : M := .seq (.ops [⟨some 4, .mv (.c (.bool false)), none, []⟩])
 (.seq (.ops [⟨some 5, .mv (.t 0), none, []⟩,
  ⟨some 6, .mv (.t 1), none, []⟩,
  ⟨some 7, .call 86 [.t 5, .t 6], none, [.f 1]⟩,
  ⟨some 8, .bin .geq false (.t 7) (.c (.int .i64 0)), none, []⟩,
  ⟨some 4, .mv (.t 8), none, []⟩])
 (.ret))
theorem lk_slices_Contains_string_string : look Tryd.prog 74 = some (9, m_slices_Contains_string_string, [.tm 4]) := by kernel_rfl
end Go.Proofs.YtpknmldpdoadgaaDoor

/- impl.joinedMaps on values without memory. -/
namespace Go.Proofs.YtpknmldpdoadgaaDoor
open Go.RowKit
variable {T : World → Prop} {hT : Low ngl T}

theorem po_slc {E : Env} {d n : Nat} {x : X} {lo hi : Option X} {c : List X} {r : List MOpr} {K : St → Prop} {tm : Nat → PV} {bx : List (List PC)} {nt : Nat} {live : List Nat} {t l h : Nat} {es rs : List (List PC)} (hx : ev tm x = .d (.sl t es)) (hl : bound (ev tm) 0 lo = some l) (hh : bound (ev tm) es.length hi = some h) (hle : l ≤ h ∧ h ≤ es.length) (hw : ∀ e ∈ es, e.length = n) (hr : (es.drop l).take (h - l) = rs)
    (k : po E r K ⟨up d (.d (.sl 0 rs)) tm, bx, nt, live⟩) : po E (⟨some d, .slc n x lo hi, none, c⟩ :: r) K ⟨tm, bx, nt, live⟩ := by
  refine po_q rfl ?_ k
  subst hr
  simp only [qf, hx, hl, hh]
  rw [if_pos ⟨hle.1, hle.2, hw⟩]

theorem contains_fn (ks : List (List UInt8)) (key : List UInt8) (hl : ks.length ≤ 4294967295) : FnV (env T hT) 74 [.d (pSs ks), .d (pS key)] (.d (pB (decide (key ∈ ks)))) := by
  refine fn_of (look_env lk_slices_Contains_string_string) (by show 2 ≤ 9; decide) fun B hB => ?_
  unfold m_slices_Contains_string_string
  refine mw_seq (mw_ops ?_)
  refine po_q rfl rfl ?_
  refine po_nil ?_
  refine mw_seq (mw_ops ?_)
  iterate 2 (refine po_q rfl rfl ?_)
  refine po_call (key_arg ks key) (index_fn ks key hl) ?_
  refine po_b rfl rfl (fun b1 hb1 => ?_)
  refine po_q rfl rfl ?_
  refine po_nil ?_
  refine mw_ret ⟨.inr rfl, _, rfl, ?_⟩
  have : decide (key ∈ ks) = b1 := by rw [hb1]; exact decide_eq_decide.2 (ixF_mem ks key 0).symm
  rw [this]; rfl
theorem concat_fn (l1 l2 : List (List UInt8)) (hl : l1.length + l2.length ≤ 4294967290) : FnV (env T hT) 73 [.d (.sl 0 [[pSs l1], [pSs l2]])] (.d (pSs (l1 ++ l2))) := by
  refine (FnO.oldR (te := 9) ?_).v
  intro w C vs hF hng hT hl2 hv
  match vs, hl2 with
  | [v], _ =>
    have hd : (D.sl 1 [dSs l1, dSs l2]).pc = [.sl 0 [[pSs l1], [pSs l2]]] := by simp only [D.pc, D.pcE, dSs_pc]
    have h1 := vRd1 (d := .sl 1 [dSs l1, dSs l2]) hF (by
      simp only [D.wf, D.wfs]
      exact ⟨fun e he => by simp at he; rcases he with rfl | rfl <;> rfl, dSs_wf l1, dSs_wf l2, trivial⟩) hd (hv 0 _ _ rfl rfl)
    obtain ⟨a, c, rfl, h2⟩ := h1.slice
    obtain ⟨_, _, _, g, o, rfl, _, h3⟩ := h2 (by simp)
    obtain ⟨cs0, e0, r0, q0⟩ := h3 0 (by simp)
    obtain ⟨cs1, e1, r1, q1⟩ := h3 1 (by simp)
    match cs0, e0, cs1, e1 with
    | [v0], _, [v1], _ =>
      exact concat_any l1 l2 v0 v1 g o c w r0.strRow r1.strRow (q0 0 v0 rfl) (q1 0 v1 rfl) hl

def K1 (a : Sh) : List (List UInt8) := a.keys.take a.must.toNat
def clo : PV := .fn 71 [.ref 0 0, .ref 1 0, .ref 3 0]
def Jm1 (a b : Sh) (f : List UInt8 → Sh) (m : Nat) (s : St) : Prop := ∃ i : Nat, i ≤ (K1 a).length ∧ m = (K1 a).length - i ∧ has s.tm [(2, .ref 0 0), (3, .ref 1 0), (4, .ref 2 0), (5, .ref 3 0), (6, clo), (20, .d (.sl 0 (pSr (K1 a)))), (21, .d (pI (K1 a).length)), (22, .d (pI i))] ∧
  AdI a b (((K1 a).take i).filter (mustIn b)) 0 f s.nt s.live s.bx
def Jm2 (a b : Sh) (f : List UInt8 → Sh) (m : Nat) (s : St) : Prop := ∃ i : Nat, i ≤ (a.keys ++ b.keys).length ∧ m = (a.keys ++ b.keys).length - i ∧ has s.tm [(2, .ref 0 0), (3, .ref 1 0), (4, .ref 2 0), (5, .ref 3 0), (6, clo), (47, .d (.sl 0 (pSr (a.keys ++ b.keys)))), (48, .d (pI (a.keys ++ b.keys).length)), (49, .d (pI i))] ∧
  AdI a b (addK (jKeys1 a b) ((a.keys ++ b.keys).take i)) (jKeys1 a b).length f s.nt s.live s.bx

set_option maxHeartbeats 1000000 in
theorem jmaps_fn {N : Nat} (hJ : JnQ T hT N) (a b : Sh) (hn : a.nodes ≤ N + 1) (hwa : a.wf) (hwb : b.wf) (hoa : a.ok = true) (hob : b.ok = true) (hka : a.kind = 8) (hkb : b.kind = 8) :
    FnV (env T hT) 51 [.ag (shC a), .ag (shC b)] (.ag (shC (joinMaps (joinS N) a b))) := by
  obtain ⟨hna, hla, hma1, hma2, hla1, hka1⟩ := ok_map hoa hka
  obtain ⟨hnb, hlb, hmb1, hmb2, hlb1, hkb1⟩ := ok_map hob hkb
  have hba := (Sh.ok_bulk hoa).1
  have hbb := (Sh.ok_bulk hob).1
  have hK1 : (K1 a).length ≤ 100 := by unfold K1; rw [List.length_take]; omega
  have hadd := fun key ks m tk tr rows rest nt live hkey hks hr hN => add_fn (T := T) (hT := hT) hJ a b key ks m tk tr rows rest nt live hn hwa hwb hba hbb (by omega) (by omega) hkey hks hr hN
  have hcl : okFn (env T hT).P 71 = true := by show okFn Tryd.prog _ = true; kernel_rfl
  refine fn_of (look_env lk_i_joinedMaps) (by show 2 ≤ 63; decide) fun B hB => ?_
  unfold m_i_joinedMaps
  refine mw_seq (mw_ops ?_)
  iterate 2 (refine po_box rfl ?_)
  refine po_zero ?_
  refine po_nil ?_
  refine mw_seq (mw_ops ?_)
  refine po_q rfl rfl ?_
  refine po_zero ?_
  refine po_store rfl rfl rfl ⟨rfl, Nat.le_of_ble_eq_true rfl⟩ rfl ?_
  refine po_nil ?_
  refine mw_seq (mw_ops ?_)
  iterate 2 (refine po_q rfl rfl ?_)
  refine po_nil ?_
  refine mw_cut (fun s => ∃ m, Jm1 a b (jKid (joinS N) a b) m s ∧ m = 0) ?_ ?_
  · refine mw_seq (mw_ops ?_)
    iterate 4 (refine po_q rfl rfl ?_)
    refine po_slc (t := 0) (es := pSr a.keys) (l := 0) (h := a.must.toNat) (rs := pSr (K1 a)) rfl rfl (if_pos hma1) ⟨by omega, by rw [pSr_len]; omega⟩ (pSr_wid _) (by unfold K1 pSr; rw [List.drop_zero, Nat.sub_zero, List.map_take]) ?_
    iterate 2 (refine po_q rfl rfl ?_)
    refine po_nil ?_
    refine mw_block ?_
    refine mw_while (Jm1 a b (jKid (joinS N) a b)) (K1 a).length ⟨0, Nat.zero_le _, by simp, ⟨rfl, rfl, rfl, rfl, rfl, rfl, congrArg (fun n : Nat => PV.d (pI n)) (pSr_len (K1 a)), rfl, trivial⟩, 1, 1, [], [], rfl, rfl, .inl rfl, .inl rfl, fun _ => rfl, Nat.le_refl 2⟩ ?_
    rintro m tm bx nt live ⟨i, hi, rfl, ht, tk, tr, rows, rest, hbx, hr, hN⟩
    obtain ⟨tm0, rfl⟩ := has_ups ht
    simp only at hbx hN; subst hbx
    refine mw_seq (mw_ops ?_)
    refine po_b rfl rfl (fun b1 hb1 => ?_)
    refine po_nil ?_
    refine mw_seq (mw_cond rfl (fun hc => ?_) (fun hc => ?_))
    · have hlt : i < (K1 a).length := by subst hb1; have := of_decide_eq_true hc; omega
      have hmem : (K1 a)[i] ∈ a.keys := List.mem_of_mem_take (List.getElem_mem hlt)
      have hst : ((K1 a).take (i + 1)).filter (mustIn b) = if mustIn b (K1 a)[i] = true then ((K1 a).take i).filter (mustIn b) ++ [(K1 a)[i]] else ((K1 a).take i).filter (mustIn b) := by
        rw [List.take_succ_eq_append_getElem hlt, List.filter_append]
        cases hp : mustIn b (K1 a)[i] with
        | true => rw [if_pos rfl]; simp [hp]
        | false => rw [if_neg (by decide)]; simp [hp]
      have hfl : (((K1 a).take i).filter (mustIn b)).length ≤ 100 := by
        have h1 := List.length_filter_le (mustIn b) ((K1 a).take i)
        rw [List.length_take] at h1; omega
      have hfb := field_fn (T := T) (hT := hT) b (K1 a)[i] (by omega) (by omega)
      have hmi : (decide (0 ≤ ixF b.keys (K1 a)[i] 0) && decide (ixF b.keys (K1 a)[i] 0 < b.must)) = mustIn b (K1 a)[i] := rfl
      rw [hmi] at hfb
      generalize hmv : mustIn b (K1 a)[i] = mv at hfb hst
      refine mw_skip ?_
      refine mw_seq (mw_block (mw_seq (mw_ops ?_)))
      refine po_ix (es := pSr (K1 a)) (e := [pS (K1 a)[i]]) rfl rfl rfl ⟨by omega, by rw [Int.toNat_natCast]; exact pSr_get hlt⟩ rfl ?_
      iterate 2 (refine po_q rfl rfl ?_)
      refine po_nil ?_
      refine mw_seq (mw_ops ?_)
      iterate 2 (refine po_q rfl rfl ?_)
      refine po_call (shk_arg b (K1 a)[i]) hfb ?_
      iterate 4 (refine po_q rfl rfl ?_)
      refine po_new (cs := shC (fldV b (K1 a)[i])) rfl rfl rfl rfl ?_
      iterate 2 (refine po_q rfl rfl ?_)
      refine po_nil ?_
      refine mw_seq (mw_ops ?_)
      refine po_q rfl rfl ?_
      refine po_nil ?_
      cases mv
      · rw [if_neg (by decide)] at hst
        refine mw_cond (t := false) rfl (fun h => absurd h (by decide)) (fun _ => ?_)
        refine mw_skip ?_
        refine mw_ops ?_
        iterate 2 (refine po_q rfl rfl ?_)
        refine po_nil ?_
        refine ⟨(K1 a).length - (i + 1), by omega, i + 1, hlt, rfl, ⟨rfl, rfl, rfl, rfl, rfl, rfl, rfl, ?_, trivial⟩, ?_⟩
        · show PV.d (.v (.int .i64 (IntKind.wrap .i64 ((i : Int) + 1)))) = _
          rw [wrap_lt (by omega) (by omega)]; rfl
        · rw [hst]; exact ⟨tk, tr, rows, rest ++ [shC (fldV b (K1 a)[i])], rfl, hr, hN⟩
      · rw [if_pos rfl] at hst
        refine mw_cond (t := true) rfl (fun _ => ?_) (fun h => absurd h (by decide))
        refine mw_ops ?_
        iterate 2 (refine po_q rfl rfl ?_)
        refine po_vg (cap := [.ref 0 0, .ref 1 0, .ref 3 0]) rfl hcl rfl (hadd (K1 a)[i] (((K1 a).take i).filter (mustIn b)) 0 tk tr rows (rest ++ [shC (fldV b (K1 a)[i])]) nt live (.inl hmem) (by omega) hr hN) ?_
        intro y bx' nt' live' hA
        refine po_nil ?_
        refine mw_ops ?_
        iterate 2 (refine po_q rfl rfl ?_)
        refine po_nil ?_
        refine ⟨(K1 a).length - (i + 1), by omega, i + 1, hlt, rfl, ⟨rfl, rfl, rfl, rfl, rfl, rfl, rfl, ?_, trivial⟩, ?_⟩
        · show PV.d (.v (.int .i64 (IntKind.wrap .i64 ((i : Int) + 1)))) = _
          rw [wrap_lt (by omega) (by omega)]; rfl
        · rw [hst]; exact hA
    · have hge : i = (K1 a).length := by subst hb1; have := of_decide_eq_false hc; omega
      refine mw_exit ?_
      exact ⟨0, ⟨i, hi, by omega, ⟨rfl, rfl, rfl, rfl, rfl, rfl, rfl, rfl, trivial⟩, tk, tr, rows, rest, rfl, hr, hN⟩, rfl⟩
  rintro tm bx nt live ⟨m, ⟨i, hi, rfl, ht, tk, tr, rows, rest, hbx, hr, hN⟩, hm⟩
  obtain ⟨tm0, rfl⟩ := has_ups ht
  simp only at hbx hN; subst hbx
  have hie : i = (K1 a).length := by omega
  subst hie
  have hk1 : ((K1 a).take (K1 a).length).filter (mustIn b) = jKeys1 a b := by rw [List.take_length]; rfl
  rw [hk1] at hr ⊢
  have hk1l := jKeys1_len a b
  refine mw_seq (mw_ops ?_)
  iterate 4 (refine po_q rfl rfl ?_)
  refine po_store rfl rfl rfl ⟨rfl, Nat.le_of_ble_eq_true rfl⟩ rfl ?_
  refine po_nil ?_
  have hA0 : AdI a b (jKeys1 a b) (jKeys1 a b).length (jKid (joinS N) a b) nt live (shC a :: shC b :: zSh :: oC (.sl tk (pSr (jKeys1 a b))) ((pSr (jKeys1 a b)).length : Nat) (.sl tr rows) :: rest) := by
    rw [pSr_len]; exact ⟨tk, tr, rows, rest, rfl, hr, hN⟩
  refine mw_cut (fun s => ∃ m, Jm2 a b (jKid (joinS N) a b) m s ∧ m = 0) ?_ ?_
  · refine mw_seq (mw_ops ?_)
    iterate 4 (refine po_q rfl rfl ?_)
    refine po_lit rfl ?_
    refine po_call (args := [.d (.sl 0 [[pSs a.keys], [pSs b.keys]])]) (congrArg (fun l => some [PV.d (.sl 0 l)]) (show [[(pSs a.keys).er], [(pSs b.keys).er]] = _ by rw [pSs_er, pSs_er])) (concat_fn a.keys b.keys (by omega)) ?_
    iterate 2 (refine po_q rfl rfl ?_)
    refine po_nil ?_
    refine mw_block ?_
    refine mw_while (Jm2 a b (jKid (joinS N) a b)) (a.keys ++ b.keys).length ⟨0, Nat.zero_le _, by simp, ⟨rfl, rfl, rfl, rfl, rfl, rfl, congrArg (fun n : Nat => PV.d (pI n)) (pSr_len (a.keys ++ b.keys)), rfl, trivial⟩, ?_⟩ ?_
    · obtain ⟨tk, tr, rows, rest, h1, h2, h3⟩ := hA0
      exact ⟨tk, tr, rows, rest, h1, h2, h3.mono (by show nt ≤ nt + 1; omega) (fun x hx => List.mem_cons_of_mem _ hx)⟩
    clear hA0 hr hN
    rintro m tm bx nt live ⟨i, hi, rfl, ht, tk, tr, rows, rest, hbx, hr, hN⟩
    obtain ⟨tm0, rfl⟩ := has_ups ht
    simp only at hbx hN; subst hbx
    have hab : (a.keys ++ b.keys).length ≤ 200 := by rw [List.length_append]; omega
    have hal : (addK (jKeys1 a b) ((a.keys ++ b.keys).take i)).length ≤ 300 := by
      have := addK_len (jKeys1 a b) ((a.keys ++ b.keys).take i)
      rw [List.length_take] at this; omega
    refine mw_seq (mw_ops ?_)
    refine po_b rfl rfl (fun b1 hb1 => ?_)
    refine po_nil ?_
    refine mw_seq (mw_cond rfl (fun hc => ?_) (fun hc => ?_))
    · have hlt : i < (a.keys ++ b.keys).length := by subst hb1; have := of_decide_eq_true hc; omega
      have hst := addK_take (acc := jKeys1 a b) hlt
      refine mw_skip ?_
      refine mw_seq (mw_block (mw_seq (mw_ops ?_)))
      refine po_ix (es := pSr (a.keys ++ b.keys)) (e := [pS (a.keys ++ b.keys)[i]]) rfl rfl rfl ⟨by omega, by rw [Int.toNat_natCast]; exact pSr_get hlt⟩ rfl ?_
      iterate 2 (refine po_q rfl rfl ?_)
      refine po_nil ?_
      refine mw_seq (mw_ops ?_)
      iterate 3 (refine po_q rfl rfl ?_)
      have hct := contains_fn (T := T) (hT := hT) (addK (jKeys1 a b) ((a.keys ++ b.keys).take i)) (a.keys ++ b.keys)[i] (by omega)
      refine po_call (key_arg2 tk _ _) hct ?_
      by_cases hin : (a.keys ++ b.keys)[i] ∈ addK (jKeys1 a b) ((a.keys ++ b.keys).take i)
      · rw [if_pos hin] at hst
        rw [decide_eq_true hin]
        refine po_q rfl rfl ?_
        refine po_nil ?_
        refine mw_cond (t := false) rfl (fun h => absurd h (by decide)) (fun _ => ?_)
        refine mw_skip ?_
        refine mw_ops ?_
        iterate 2 (refine po_q rfl rfl ?_)
        refine po_nil ?_
        refine ⟨(a.keys ++ b.keys).length - (i + 1), by omega, i + 1, hlt, rfl, ⟨rfl, rfl, rfl, rfl, rfl, rfl, rfl, ?_, trivial⟩, ?_⟩
        · show PV.d (.v (.int .i64 (IntKind.wrap .i64 ((i : Int) + 1)))) = _
          rw [wrap_lt (by omega) (by omega)]; rfl
        · rw [hst]; exact ⟨tk, tr, rows, rest, rfl, hr, hN⟩
      · rw [if_neg hin] at hst
        rw [decide_eq_false hin]
        refine po_q rfl rfl ?_
        refine po_nil ?_
        refine mw_cond (t := true) rfl (fun _ => ?_) (fun h => absurd h (by decide))
        refine mw_ops ?_
        iterate 2 (refine po_q rfl rfl ?_)
        refine po_vg (cap := [.ref 0 0, .ref 1 0, .ref 3 0]) rfl hcl rfl (hadd (a.keys ++ b.keys)[i] (addK (jKeys1 a b) ((a.keys ++ b.keys).take i)) (jKeys1 a b).length tk tr rows rest nt live (List.mem_append.1 (List.getElem_mem hlt)) (by omega) hr hN) ?_
        intro y bx' nt' live' hA
        refine po_nil ?_
        refine mw_ops ?_
        iterate 2 (refine po_q rfl rfl ?_)
        refine po_nil ?_
        refine ⟨(a.keys ++ b.keys).length - (i + 1), by omega, i + 1, hlt, rfl, ⟨rfl, rfl, rfl, rfl, rfl, rfl, rfl, ?_, trivial⟩, ?_⟩
        · show PV.d (.v (.int .i64 (IntKind.wrap .i64 ((i : Int) + 1)))) = _
          rw [wrap_lt (by omega) (by omega)]; rfl
        · rw [hst]; exact hA
    · have hge : i = (a.keys ++ b.keys).length := by subst hb1; have := of_decide_eq_false hc; omega
      refine mw_exit ?_
      exact ⟨0, ⟨i, hi, by omega, ⟨rfl, rfl, rfl, rfl, rfl, rfl, rfl, rfl, trivial⟩, tk, tr, rows, rest, rfl, hr, hN⟩, rfl⟩
  clear hA0 hr hN
  rintro tm bx nt live ⟨m, ⟨i, hi, rfl, ht, tk, tr, rows, rest, hbx, hr, hN⟩, hm⟩
  obtain ⟨tm0, rfl⟩ := has_ups ht
  simp only at hbx hN; subst hbx
  have hie : i = (a.keys ++ b.keys).length := by omega
  subst hie
  have hjk : addK (jKeys1 a b) ((a.keys ++ b.keys).take (a.keys ++ b.keys).length) = jKeys a b := by rw [List.take_length]; rfl
  rw [hjk] at hr ⊢
  refine mw_seq (mw_ops ?_)
  refine po_q rfl rfl ?_
  refine po_store rfl rfl rfl ⟨rfl, Nat.le_of_ble_eq_true rfl⟩ rfl ?_
  refine po_nil ?_
  refine mw_ret ⟨.inr rfl, _, rfl, ?_⟩
  show some (PV.ag (erL (oC (.sl tk (pSr (jKeys a b))) (jKeys1 a b).length (.sl tr rows)))) = some (PV.ag (shC (joinMaps (joinS N) a b)))
  refine congrArg (fun l => some (PV.ag l)) ?_
  simp only [oC, erL, PC.er, pSr_er, hr]
  rfl
end Go.Proofs.YtpknmldpdoadgaaDoor

/- impl.joined, checkedShape, Join on values without memory. -/
namespace Go.Proofs.YtpknmldpdoadgaaDoor
open Go.RowKit
variable {T : World → Prop} {hT : Low ngl T}

theorem samei_fn (a b : Sh) (ha : a.bulk ≤ 1048576) (hb : b.bulk ≤ 1048576) : FnV (env T hT) 48 [.ag (shC a), .ag (shC b)] (.d (pB (decide (a = b)))) := by
  refine FnV.old rfl ?_
  intro w C vs hF hng hT hl2 hv
  match vs, hl2 with
  | [v, k], _ =>
    obtain ⟨cs, rfl, h1⟩ := vRd hF (Sh.wfd a) (by rw [Sh.pc_eq]; exact hv 0 _ _ rfl rfl)
    obtain ⟨ds, rfl, h2⟩ := vRd hF (Sh.wfd b) (by rw [Sh.pc_eq]; exact hv 1 _ _ rfl rfl)
    exact sameShape_impl a b cs ds w h1 h2 ha hb
theorem oki_fn (hTab : ∀ w, T w → Tabs w) (a : Sh) (hw : a.wf) (ha : a.bulk ≤ 4294967295) : FnV (env T hT) 24 [.ag (shC a)] (.d (pB a.ok)) := by
  refine FnV.old rfl ?_
  intro w C vs hF hng hT hl2 hv
  match vs, hl2 with
  | [v], _ =>
    obtain ⟨cs, rfl, h1⟩ := vRd hF (Sh.wfd a) (by rw [Sh.pc_eq]; exact hv 0 _ _ rfl rfl)
    exact shapeOk_impl a cs w h1 hw ha (hTab w hT)

theorem min_if (a b : Int) : (if b < a then b else a) = min a b := by split <;> omega
theorem max_if (a b : Int) : (if b > a then b else a) = max a b := by split <;> omega
set_option maxHeartbeats 1000000 in
theorem joined_fn {N : Nat} (hJ : JnQ T hT N) (a b : Sh) (hn : a.nodes ≤ N + 1) (hwa : a.wf) (hwb : b.wf) (hoa : a.ok = true) (hob : b.ok = true) :
    FnV (env T hT) 26 [.ag (shC a), .ag (shC b)] (.ag (shC (join1 (joinS N) a b))) := by
  have hba := (Sh.ok_bulk hoa).1
  have hbb := (Sh.ok_bulk hob).1
  refine fn_of (look_env lk_i_joined) (by show 2 ≤ 73; decide) fun B hB => ?_
  unfold m_i_joined
  refine mw_seq (mw_ops ?_)
  iterate 2 (refine po_box rfl ?_)
  refine po_zero ?_
  refine po_nil ?_
  refine mw_seq (mw_block (mw_seq (mw_ops ?_)))
  iterate 2 (refine po_q rfl rfl ?_)
  refine po_call (shC_arg2 a b) (samei_fn a b (by omega) (by omega)) ?_
  refine po_q rfl rfl ?_
  refine po_nil ?_
  refine mw_cond rfl (fun hc => ?_) (fun hc => ?_)
  · have hab : a = b := of_decide_eq_true hc
    refine mw_seq (mw_ops ?_)
    refine po_q rfl rfl ?_
    refine po_store rfl rfl rfl ⟨rfl, Nat.le_of_ble_eq_true rfl⟩ rfl ?_
    refine po_nil ?_
    refine mw_ret ⟨.inr rfl, _, rfl, ?_⟩
    rw [join1_same hab]; exact congrArg (fun l => some (PV.ag l)) (shC_er a)
  have hab : a ≠ b := of_decide_eq_false hc
  clear hc
  refine mw_cut (fun s => has s.tm (J1F ++ [(11, .d (pB (decide (a.kind = b.kind) && bdK a.kind)))]) ∧ s.bx = [shC a, shC b, zSh]) ?_ ?_
  · refine mw_ops ?_
    iterate 4 (refine po_q rfl rfl ?_)
    refine po_bc rfl rfl (fun hb => ?_) (fun hb => ?_)
    · have hk : a.kind = b.kind := by simpa using hb
      iterate 3 (refine po_q rfl rfl ?_)
      refine po_gcall (b := true) (args := [.d (pI a.kind)]) rfl (fun _ => rfl) (fun _ => bounds_fn a.kind) ?_
      iterate 2 (refine po_q rfl rfl ?_)
      refine po_nil ?_
      refine ⟨⟨rfl, rfl, rfl, ?_, trivial⟩, rfl⟩
      rw [decide_eq_true hk, Bool.true_and]; rfl
    · have hk : a.kind ≠ b.kind := by simpa using hb
      repeat' (first | refine po_skip rfl ?_ | refine po_q rfl rfl ?_)
      refine po_nil ?_
      refine ⟨⟨rfl, rfl, rfl, ?_, trivial⟩, rfl⟩
      rw [decide_eq_false hk, Bool.false_and]; rfl
  rintro tm bx nt live ⟨ht, hbx⟩
  simp only at hbx; subst hbx
  obtain ⟨tm0, rfl⟩ := has_ups ht
  clear ht
  refine mw_cond rfl (fun hc => ?_) (fun hc => ?_)
  · rw [Bool.and_eq_true, decide_eq_true_eq] at hc
    obtain ⟨hk, hbd⟩ := hc
    obtain ⟨hk0, hm0, hk7, hk7'⟩ := ok_bd hoa hbd
    obtain ⟨_, _, _, hk7b⟩ := ok_bd hob (by rw [← hk]; exact hbd)
    have hj := join1_bd (f := joinS N) hab hk hbd
    refine mw_seq (mw_ops ?_)
    iterate 13 (refine po_q rfl rfl ?_)
    refine po_zero ?_
    refine po_store rfl rfl rfl ⟨rfl, Nat.le_of_ble_eq_true rfl⟩ rfl ?_
    refine po_nil ?_
    refine mw_cut (fun s => has s.tm (J1F ++ [(5, .ref 3 0)]) ∧ ∃ t6 r6, s.bx = [shC a, shC b, zSh, [pI a.kind, pI (min a.low b.low), pI (max a.high b.high), .sl 1 [], pI 0, .sl t6 r6]] ∧ erLL r6 = shK (if a.kind = 7 then [joinS N (a.kids.headD shNil) (b.kids.headD shNil)] else [])) ?_ ?_
    · refine mw_seq (mw_ops ?_)
      iterate 2 (refine po_q rfl rfl ?_)
      refine po_b rfl rfl (fun b3 hb3 => ?_)
      refine po_nil ?_
      refine mw_cond rfl (fun hc3 => ?_) (fun hc3 => ?_)
      · have h7 : a.kind = 7 := by rw [hb3] at hc3; simpa using hc3
        obtain ⟨kda, hkda⟩ := hk7' h7
        obtain ⟨kdb, hkdb⟩ := hk7b (hk.symm.trans h7)
        have h0a := one_kid (N := N) hkda
        have h0b := one_kid (N := N) hkdb
        refine mw_ops ?_
        iterate 2 (refine po_q rfl rfl ?_)
        refine po_ix (es := shK a.kids) (e := shC kda) rfl rfl rfl ⟨by decide, by rw [hkda, shK_eq]; rfl⟩ rfl ?_
        iterate 3 (refine po_q rfl rfl ?_)
        refine po_ix (es := shK b.kids) (e := shC kdb) rfl rfl rfl ⟨by decide, by rw [hkdb, shK_eq]; rfl⟩ rfl ?_
        refine po_q rfl rfl ?_
        refine po_sh (shC_arg2 kda kdb) (hJ kda kdb (h0a.1 hn) (h0a.2.1 hwa) (h0b.2.1 hwb) (by omega) (by omega)) ?_
        intro d0 d1 d2 d3 d4 d5 nt2 hy hnt2 hM
        refine po_lit rfl ?_
        refine po_q rfl rfl ?_
        refine po_store rfl rfl rfl ⟨rfl, Nat.le_of_ble_eq_true rfl⟩ rfl ?_
        refine po_nil ?_
        refine ⟨⟨rfl, rfl, rfl, rfl, trivial⟩, nt2, [[d0, d1, d2, d3, d4, d5]], ?_, ?_⟩
        · rw [← min_if, ← max_if]; rfl
        · rw [if_pos h7, hkda, hkdb, shK_eq]
          show [erL [d0, d1, d2, d3, d4, d5]] = [shC (joinS N kda kdb)]
          rw [hy]
      · have h7 : a.kind ≠ 7 := by rw [hb3] at hc3; simpa using hc3
        refine mw_skip ?_
        refine ⟨⟨rfl, rfl, rfl, rfl, trivial⟩, 1, [], ?_, ?_⟩
        · rw [← min_if, ← max_if]; rfl
        · rw [if_neg h7]; rfl
    clear tm0
    rintro tm bx nt live ⟨ht, t6, r6, hbx, hr6⟩
    simp only at hbx; subst hbx
    obtain ⟨tm0, rfl⟩ := has_ups ht
    refine mw_seq (mw_ops ?_)
    refine po_q rfl rfl ?_
    refine po_store rfl rfl rfl ⟨rfl, Nat.le_of_ble_eq_true rfl⟩ rfl ?_
    refine po_nil ?_
    refine mw_ret ⟨.inr rfl, _, rfl, ?_⟩
    rw [hj]
    refine congrArg (fun l => some (PV.ag l)) ?_
    show erL [pI a.kind, pI (min a.low b.low), pI (max a.high b.high), .sl 1 [], pI 0, .sl t6 r6] = _
    simp only [erL, PC.er, hr6]
    rfl
  have hkb : ¬ (a.kind = b.kind ∧ bdK a.kind = true) := by rintro ⟨h1, h2⟩; rw [decide_eq_true h1, h2] at hc; cases hc
  refine mw_cut (fun s => has s.tm (J1F ++ [(50, .d (pB (numK a.kind && numK b.kind)))]) ∧ s.bx = [shC a, shC b, zSh]) ?_ ?_
  · refine mw_ops ?_
    iterate 2 (refine po_q rfl rfl ?_)
    have hfa := numeric_fn (T := T) (hT := hT) a.kind
    have hfb := numeric_fn (T := T) (hT := hT) b.kind
    generalize numK a.kind = na at hfa ⊢
    generalize numK b.kind = nb at hfb ⊢
    refine po_call (args := [.d (pI a.kind)]) rfl hfa ?_
    refine po_q rfl rfl ?_
    cases na
    · repeat' (first | refine po_skip rfl ?_ | refine po_q rfl rfl ?_)
      refine po_nil ?_
      exact ⟨⟨rfl, rfl, rfl, rfl, trivial⟩, rfl⟩
    · iterate 2 (refine po_q rfl rfl ?_)
      refine po_gcall (b := true) (args := [.d (pI b.kind)]) rfl (fun _ => rfl) (fun _ => hfb) ?_
      iterate 2 (refine po_q rfl rfl ?_)
      refine po_nil ?_
      exact ⟨⟨rfl, rfl, rfl, rfl, trivial⟩, rfl⟩
  clear tm0
  rintro tm bx nt live ⟨ht, hbx⟩
  simp only at hbx; subst hbx
  obtain ⟨tm0, rfl⟩ := has_ups ht
  clear ht
  refine mw_cond rfl (fun hc => ?_) (fun hc => ?_)
  · refine mw_seq (mw_ops ?_)
    refine po_q rfl rfl ?_
    refine po_store rfl rfl rfl ⟨rfl, Nat.le_of_ble_eq_true rfl⟩ rfl ?_
    refine po_nil ?_
    refine mw_ret ⟨.inr rfl, _, rfl, ?_⟩
    have : join1 (joinS N) a b = .mk 4 0 0 [] 0 [] := by unfold join1; rw [if_neg (ne_same hab), if_neg hkb, if_pos hc]
    rw [this]; rfl
  have hnil : ¬ (a.kind = 8 ∧ b.kind = 8) → join1 (joinS N) a b = shNil := by
    intro h8; unfold join1; rw [if_neg (ne_same hab), if_neg hkb, if_neg (by rw [hc]; decide), if_neg h8]
  refine mw_cut (fun s => has s.tm (J1F ++ [(60, .d (pB (decide (a.kind = 8) && decide (b.kind = 8))))]) ∧ s.bx = [shC a, shC b, zSh]) ?_ ?_
  · refine mw_ops ?_
    repeat' (first | refine po_skip rfl ?_ | refine po_bc rfl rfl (fun hb => ?_) (fun hb => ?_) | refine po_q rfl rfl ?_)
    all_goals
      refine po_nil ?_
      refine ⟨⟨rfl, rfl, rfl, ?_, trivial⟩, rfl⟩
      clear hJ hn hwa hwb hoa hob hB hnil hkb hc
      first
        | (have e1 : (decide (a.kind = 8) && decide (b.kind = 8)) = true := by simp_all
           rw [e1]; rfl)
        | (have e1 : (decide (a.kind = 8) && decide (b.kind = 8)) = false := by simp_all
           rw [e1]; rfl)
  clear tm0
  rintro tm bx nt live ⟨ht, hbx⟩
  simp only at hbx; subst hbx
  obtain ⟨tm0, rfl⟩ := has_ups ht
  clear ht
  refine mw_cond rfl (fun hc8 => ?_) (fun hc8 => ?_)
  · rw [Bool.and_eq_true, decide_eq_true_eq, decide_eq_true_eq] at hc8
    refine mw_seq (mw_ops ?_)
    iterate 2 (refine po_q rfl rfl ?_)
    refine po_call (shC_arg2 a b) (jmaps_fn hJ a b hn hwa hwb hoa hob hc8.1 hc8.2) ?_
    refine po_store (cs := shC (joinMaps (joinS N) a b)) rfl rfl rfl ⟨rfl, Nat.le_of_ble_eq_true rfl⟩ rfl ?_
    refine po_nil ?_
    refine mw_ret ⟨.inr rfl, _, rfl, ?_⟩
    rw [join1_maps hab hc8.1 hc8.2]; exact congrArg (fun l => some (PV.ag l)) (shC_er _)
  · refine mw_skip ?_
    refine mw_seq (mw_ops ?_)
    refine po_q rfl rfl ?_
    refine po_store rfl rfl rfl ⟨rfl, Nat.le_of_ble_eq_true rfl⟩ rfl ?_
    refine po_nil ?_
    refine mw_ret ⟨.inr rfl, _, rfl, ?_⟩
    rw [hnil (fun h => by rw [decide_eq_true h.1, decide_eq_true h.2] at hc8; cases hc8)]; rfl
end Go.Proofs.YtpknmldpdoadgaaDoor

/- impl.checkedShape, Join on values without memory. -/
namespace Go.Proofs.YtpknmldpdoadgaaDoor
open Go.RowKit
variable {T : World → Prop} {hT : Low ngl T}

theorem checked_fn (hTab : ∀ w, T w → Tabs w) (r : Sh) (hw : r.wf) (hb : r.bulk ≤ 4294967280) : FnO (env T hT) 25 [.ag (shC r)] (.ag (shC (if r.ok = true then r else shNil))) := by
  have hfr := oki_fn (T := T) (hT := hT) hTab r hw (by omega)
  generalize r.ok = ro at hfr ⊢
  refine fn_of (look_env lk_i_checkedShape) (by show 1 ≤ 9; decide) fun B hB => ?_
  unfold m_i_checkedShape
  refine mw_seq (mw_ops ?_)
  refine po_box rfl ?_
  refine po_zero ?_
  refine po_nil ?_
  refine mw_seq (mw_seq (mw_ops ?_))
  refine po_q rfl rfl ?_
  refine po_call (shC_arg r) hfr ?_
  refine po_q rfl rfl ?_
  refine po_nil ?_
  cases ro
  · refine mw_cond (t := true) rfl (fun _ => ?_) (fun h => absurd h (by decide))
    refine mw_seq (mw_ops ?_)
    refine po_q rfl rfl ?_
    refine po_store rfl rfl rfl ⟨rfl, Nat.le_of_ble_eq_true rfl⟩ rfl ?_
    refine po_nil ?_
    exact mw_ret ⟨.inr rfl, _, rfl, rfl, by show ([] : List Nat).Nodup; simp, fun t ht => absurd (show t ∈ ([] : List Nat) from ht) (by simp), rfl⟩
  · refine mw_cond (t := false) rfl (fun h => absurd h (by decide)) (fun _ => ?_)
    refine mw_skip ?_
    refine mw_seq (mw_ops ?_)
    refine po_q rfl rfl ?_
    refine po_sh (shC_arg r) (own_fn _ r (Nat.le_refl _) hb) ?_
    intro c0 c1 c2 c3 c4 c5 nt' hx hnt hN
    refine po_store rfl rfl rfl ⟨rfl, Nat.le_of_ble_eq_true rfl⟩ rfl ?_
    refine po_nil ?_
    exact mw_ret ⟨.inr rfl, _, rfl, congrArg (fun l => some (PV.ag l)) hx, hN.nd, fun t ht => List.mem_append.2 (.inl ht), hN.own⟩
theorem join1_bulk {f : Sh → Sh → Sh} (hf : GoodF f) {a b : Sh} (ha : a.wf) (hb : b.wf) (hoa : a.ok = true) (hob : b.ok = true) : (join1 f a b).bulk ≤ 4294967280 := by
  have ka := (Sh.ok_bulk hoa).1
  have kb := (Sh.ok_bulk hob).1
  unfold join1
  split
  · omega
  split
  · have h1 := headD_good ha ka
    have h2 := headD_good hb kb
    have h3 := hf _ _ h1.1 h2.1
    split
    · simp only [Sh.bulk, Sh.bulks, ssBulk, List.length_cons, List.length_nil]; omega
    · simp [Sh.bulk, Sh.bulks, ssBulk]
  split
  · simp [Sh.bulk, Sh.bulks, ssBulk]
  split
  · rename_i h
    obtain ⟨_, hla, _, _, hla1, hka1⟩ := ok_map hoa h.1
    obtain ⟨_, hlb, _, _, hlb1, hkb1⟩ := ok_map hob h.2
    have hlen : (jKeys a b).length ≤ 300 := by have := jKeys_len a b; omega
    have hk100 : ∀ k ∈ jKeys a b, k.length ≤ 100 := fun k hk => (jKeys_mem a b k hk).elim (hka1 k) (hkb1 k)
    have hkid := fun k => jKid_good hf ha hb ka kb k
    unfold joinMaps
    have h1 := ssBulk_le _ hk100
    have h2 := bulks_map_le (g := jKid f a b) (jKeys a b) fun k _ => (hkid k).2
    simp only [Sh.bulk, List.length_map]
    omega
  · have := shNil_good.2; omega
theorem joini_step (hTab : ∀ w, T w → Tabs w) {N : Nat} (hJ : JnQ T hT N) (a b : Sh) (hn : a.nodes ≤ N + 1) (hwa : a.wf) (hwb : b.wf) (hba : a.bulk ≤ 4294967280) (hbb : b.bulk ≤ 4294967280) :
    FnO (env T hT) 8 [.ag (shC a), .ag (shC b)] (.ag (shC (joinS (N + 1) a b))) := by
  have hj : joinS (N + 1) a b = if (a.ok && b.ok) = true then (if (join1 (joinS N) a b).ok = true then join1 (joinS N) a b else shNil) else shNil := rfl
  rw [hj]
  have hfa := oki_fn (T := T) (hT := hT) hTab a hwa (by omega)
  have hfb := oki_fn (T := T) (hT := hT) hTab b hwb (by omega)
  have hf1 := fun h1 h2 => joined_fn (T := T) (hT := hT) hJ a b hn hwa hwb h1 h2
  have hf2 := fun h1 h2 => checked_fn (T := T) (hT := hT) hTab (join1 (joinS N) a b) (join1_good (joinS_good N) (a := a) (b := b) hwa hwb h1 h2).1 (join1_bulk (joinS_good N) hwa hwb h1 h2)
  generalize a.ok = oa at hfa hf1 hf2 ⊢
  generalize b.ok = ob at hfb hf1 hf2 ⊢
  generalize join1 (joinS N) a b = r at hf1 hf2 ⊢
  refine fn_of (look_env lk_i_Join) (by show 2 ≤ 18; decide) fun B hB => ?_
  unfold m_i_Join
  refine mw_seq (mw_ops ?_)
  iterate 2 (refine po_box rfl ?_)
  refine po_zero ?_
  refine po_nil ?_
  refine mw_seq (mw_cut (fun s => has s.tm (J1F ++ [(12, .d (pB (!(oa && ob))))]) ∧ s.bx = [shC a, shC b, zSh] ∧ s.nt = 2 ∧ s.live = []) ?_ ?_)
  · refine mw_ops ?_
    refine po_q rfl rfl ?_
    refine po_call (shC_arg a) hfa ?_
    cases oa
    · repeat' (first | refine po_skip rfl ?_ | refine po_q rfl rfl ?_)
      refine po_nil ?_
      exact ⟨⟨rfl, rfl, rfl, rfl, trivial⟩, rfl, rfl, rfl⟩
    · iterate 3 (refine po_q rfl rfl ?_)
      refine po_gcall (b := true) rfl (fun _ => shC_arg b) (fun _ => hfb) ?_
      cases ob
      all_goals
        repeat' (first | refine po_skip rfl ?_ | refine po_q rfl rfl ?_)
        refine po_nil ?_
        exact ⟨⟨rfl, rfl, rfl, rfl, trivial⟩, rfl, rfl, rfl⟩
  rintro tm bx nt live ⟨ht, hbx, hnt9, hlv9⟩
  simp only at hbx hnt9 hlv9; subst hbx; subst hnt9; subst hlv9
  obtain ⟨tm0, rfl⟩ := has_ups ht
  clear ht
  refine mw_cond rfl (fun hc => ?_) (fun hc => ?_)
  · rw [if_neg (by rw [Bool.not_eq_true'] at hc; rw [hc]; decide)]
    refine mw_seq (mw_ops ?_)
    refine po_q rfl rfl ?_
    refine po_store rfl rfl rfl ⟨rfl, Nat.le_of_ble_eq_true rfl⟩ rfl ?_
    refine po_nil ?_
    exact mw_ret ⟨.inr rfl, _, rfl, rfl, by show ([] : List Nat).Nodup; simp, fun t ht => ht, rfl⟩
  rw [Bool.not_eq_false'] at hc
  rw [if_pos hc]
  rw [Bool.and_eq_true] at hc
  refine mw_skip ?_
  refine mw_seq (mw_ops ?_)
  iterate 2 (refine po_q rfl rfl ?_)
  refine po_call (shC_arg2 a b) (hf1 hc.1 hc.2) ?_
  refine po_sh (shC_arg r) (hf2 hc.1 hc.2) ?_
  intro c0 c1 c2 c3 c4 c5 nt' hx hnt hN
  refine po_store rfl rfl rfl ⟨rfl, Nat.le_of_ble_eq_true rfl⟩ rfl ?_
  refine po_nil ?_
  exact mw_ret ⟨.inr rfl, _, rfl, congrArg (fun l => some (PV.ag l)) hx, hN.nd, fun t ht => List.mem_append.2 (.inl ht), hN.own⟩
theorem joinQ_all (hTab : ∀ w, T w → Tabs w) : ∀ N, JnQ T hT N
  | 0 => fun a b hn => by obtain ⟨k, l, h, ks, m, kids⟩ := a; simp [Sh.nodes] at hn
  | N + 1 => fun a b hn hwa hwb hba hbb => joini_step hTab (joinQ_all hTab N) a b hn hwa hwb (by omega) (by omega)
/-- the program's Join -/
theorem join_impl (hTab : ∀ w, T w → Tabs w) (a b : Sh) (hwa : a.wf) (hwb : b.wf) (hba : a.bulk ≤ 4294967280) (hbb : b.bulk ≤ 4294967280) : FnO (env T hT) 8 [.ag (shC a), .ag (shC b)] (.ag (shC (joinS (a.nodes + 1) a b))) :=
  joini_step hTab (joinQ_all hTab a.nodes) a b (by omega) hwa hwb hba hbb
/-- the law's contracts of both -/
theorem joinS_old (hT : Low ngl T) (ng : ∀ w, T w → ngl ≤ w.heap.size) (a b : Sh) (cs ch : List Value) (w : World) (ha : Rd w a.d cs) (hb : Rd w b.d ch) (hwa : a.wf) (hwb : b.wf) (hba : a.bulk ≤ 1048576) (hbb : b.bulk ≤ 1048576) (hw : T w) :
    Calls Tryd.prog 6 #[.agg cs.toArray, .agg ch.toArray] w fun e w' => ∃ cs', e = .returned (.agg (List.toArray cs')) ∧ Own w.heap.size w' (joinS (a.nodes + 1) a b).d cs' ∧ Below w.heap.size w w' ∧ T w' := by
  have h := join_spec (T := T) (hT := hT) a b hwa hwb (by omega) (by omega)
  rw [← Sh.pc_eq, ← Sh.pc_eq, ← Sh.pc_eq] at h
  exact FnO.use h (Sh.wfd _) (ng w hw) hw (vs := [.agg cs.toArray, .agg ch.toArray]) rfl fun j x y hx hy => by
    match j with
    | 0 => simp at hx hy; subst hx; subst hy; exact rdV ha (Sh.wfd a)
    | 1 => simp at hx hy; subst hx; subst hy; exact rdV hb (Sh.wfd b)
    | j + 2 => simp at hx
theorem joinI_old (hT : Low ngl T) (hTab : ∀ w, T w → Tabs w) (ng : ∀ w, T w → ngl ≤ w.heap.size) (a b : Sh) (cs ch : List Value) (w : World) (ha : Rd w a.d cs) (hb : Rd w b.d ch) (hwa : a.wf) (hwb : b.wf) (hba : a.bulk ≤ 1048576) (hbb : b.bulk ≤ 1048576) (hw : T w) :
    Calls Tryd.prog 8 #[.agg cs.toArray, .agg ch.toArray] w fun e w' => ∃ cs', e = .returned (.agg (List.toArray cs')) ∧ Own w.heap.size w' (joinS (a.nodes + 1) a b).d cs' ∧ Below w.heap.size w w' ∧ T w' := by
  have h := join_impl (T := T) (hT := hT) hTab a b hwa hwb (by omega) (by omega)
  rw [← Sh.pc_eq, ← Sh.pc_eq, ← Sh.pc_eq] at h
  exact FnO.use h (Sh.wfd _) (ng w hw) hw (vs := [.agg cs.toArray, .agg ch.toArray]) rfl fun j x y hx hy => by
    match j with
    | 0 => simp at hx hy; subst hx; subst hy; exact rdV ha (Sh.wfd a)
    | 1 => simp at hx hy; subst hx; subst hy; exact rdV hb (Sh.wfd b)
    | j + 2 => simp at hx
end Go.Proofs.YtpknmldpdoadgaaDoor

/- FnExactJoin at the call's beginning. -/
namespace Go.Proofs.YtpknmldpdoadgaaDoor
open Go.RowKit

theorem Tabs.low : Low ngl Tabs := by
  intro w w' h hs hk
  have h1 : 0 < ngl := of_decide_eq_true (by unfold ngl; kernel_rfl)
  have h2 : 1 < ngl := of_decide_eq_true (by unfold ngl; kernel_rfl)
  refine ⟨fun c hc => ?_, fun i hi => ?_⟩
  · rw [World.cell?_of_block (a := ⟨_, _, none⟩) (hk _ h1)]; exact h.1 c hc
  · rw [World.cell?_of_block (a := ⟨_, _, none⟩) (hk _ h2), World.cell?_of_block (a := ⟨_, _, none⟩) (hk _ h2)]; exact h.2 i hi
theorem exactJoinW (x0 : Sh) (cs0 : List Value) (x1 : Sh) (cs1 : List Value) (w : World) (hn : ngl ≤ w.heap.size) (hT : Tabs w) (r0 : Rd w x0.d cs0) (f0 : x0.wf) (r1 : Rd w x1.d cs1) (f1 : x1.wf) :
    Calls Tryd.prog 3 #[.agg cs0.toArray, .agg cs1.toArray] w fun e w' => e = .returned (.bool true) ∧ Below w.heap.size w w' := by
  have h := lawJoin_fn (E := envW Tabs Tabs.low w hn) rfl (A0 := rawL cs0) (A1 := rawL cs1) (D0 := x0.d) (D0' := (x0.top 1).d) (D1 := x1.d) (D1' := (x1.top (1 + x0.tcnt)).d) (DR := (joinS (x0.nodes + 1) x0 x1).d) (DR' := ((joinS (x0.nodes + 1) x0 x1).top 1).d)
    (s0 := take' x0.bulk 1048576) (s1 := take' x1.bulk (take' x0.bulk 1048576)) (k0 := ((1 + x0.tcnt : Nat) : Int)) (k1 := ((1 + x0.tcnt + x1.tcnt : Nat) : Int)) (m := ((1 + (joinS (x0.nodes + 1) x0 x1).tcnt : Nat) : Int))
    (rawL_er _) (fun L => fineL_raw _) (by rw [rawL_len, r0.len]; exact Sh.width x0) (rawL_er _) (fun L => fineL_raw _) (by rw [rawL_len, r1.len]; exact Sh.width x1)
    (szSh_fn r0 f0 ⟨by decide, by decide⟩) (fun h => szSh_fn r1 f1 ⟨h, by unfold take'; split <;> omega⟩) (fun h0 h1 => ?_)
  · exact FnV.bool h (Nat.le_refl _) ⟨hT, Nat.le_refl _, fun _ _ => rfl⟩ (vs := [.agg cs0.toArray, .agg cs1.toArray]) rfl fun j x y hx hy => by
      match j with
      | 0 => simp at hx hy; subst hx; subst hy; exact rawL_rp r0 (Sh.wfd x0)
      | 1 => simp at hx hy; subst hx; subst hy; exact rawL_rp r1 (Sh.wfd x1)
      | j + 2 => simp at hx
  · have b0 : x0.bulk ≤ 1048576 := by unfold take' at h0; split at h0 <;> omega
    have b1 : x1.bulk ≤ 1048576 := by
      have e0 : take' x0.bulk 1048576 = 1048576 - x0.bulk := take'_yes (by omega)
      rw [e0] at h1
      unfold take' at h1; split at h1 <;> omega
    have bR := (joinS_good (x0.nodes + 1) x0 x1 f0 f1).2
    have c0 := x0.tcnt_le
    have c1 := x1.tcnt_le
    have cR := (joinS (x0.nodes + 1) x0 x1).tcnt_le
    have e : ∀ x : Sh, x.bulk ≤ 1048576 → FnV (envW Tabs Tabs.low w hn) 9 [.ag x.d.pc, .ag x.d.pc] (.d (pB true)) := fun x hx => by
      have := eqSh_fn (E := envW Tabs Tabs.low w hn) rfl x x hx hx
      rw [decide_eq_true rfl] at this; exact this
    refine ⟨⟨toSh_fn r0 b0, toSh_fn r1 b1⟩, ⟨?_, ?_⟩, ⟨e _ (by omega), e _ b0, e _ b1⟩, ⟨markSh_fn rfl x0 1 (by omega) (by decide) (by omega), markSh_fn rfl x1 _ (by omega) (by omega) (by omega), markSh_fn rfl _ 1 (by omega) (by decide) (by omega), heldSh_fn rfl _ 1 (by omega) (by decide) (by omega)⟩, by omega, by omega, ⟨Sh.wfd _, Sh.wfd _, Sh.wfd _, Sh.wfd _, Sh.pld _⟩, Sh.pcl _, Sh.pcl _, Sh.pcl _, Sh.pcl _⟩
    · have := join_spec (T := Tabs) (hT := Tabs.low) x0 x1 f0 f1 (by omega) (by omega)
      rw [← Sh.pc_eq, ← Sh.pc_eq, ← Sh.pc_eq] at this
      exact this.toW
    · have := join_impl (T := Tabs) (hT := Tabs.low) (fun _ h => h) x0 x1 f0 f1 (by omega) (by omega)
      rw [← Sh.pc_eq, ← Sh.pc_eq, ← Sh.pc_eq] at this
      exact this.toW
end Go.Proofs.YtpknmldpdoadgaaDoor

/- From the claim's own reading of an argument to the reading that the walks use. No program in sight. -/
namespace Go.Proofs.YtpknmldpdoadgaaDoor
open Go.RowKit

theorem RepCs.append {S : Nat → Prop} {w : World} : ∀ {ds es : List D} {c1 c2 : List Value}, RepCs S w ds c1 → RepCs S w es c2 → RepCs S w (ds ++ es) (c1 ++ c2)
  | [], es, c1, c2, h, k => by simp only [RepCs] at h; subst h; exact k
  | d :: ds, es, c1, c2, h, k => by
    simp only [RepCs] at h; obtain ⟨e1, e2, rfl, hl, h1, h2⟩ := h
    simp only [List.cons_append, RepCs]
    exact ⟨e1, e2 ++ c2, by simp, hl, h1, RepCs.append h2 k⟩
theorem RepCs.one {S : Nat → Prop} {w : World} {d : D} {c : List Value} (h : RepC S w d c) : RepCs S w [d] c := by
  simp only [RepCs]; exact ⟨c, [], by simp, h.len, h, rfl⟩

section
variable {H : Type} {enc : TypeId × Value → H} {P : Program} {w : World} {base : Nat} {spare : Nat → Bool} {held : Bool}

/-- a slice, its elements' reading given -/
theorem trod_sl {α : Type} {t e : TypeId} {n0 : Nat} {f : α → D} {ok : α → Prop} (ht : P.underlying t = some (.slice e)) (hc : P.cellsOf e = n0) (hn : 0 < n0) (hw : ∀ x, D.width (f x) = n0)
    {fuel : Nat} (helem : ∀ n cs y, n < fuel → DataW.trod enc P w base spare held n e cs = some y → ∃ x : α, Rd w (f x) cs ∧ ok x)
    {cs : List Value} {y : DataW H × List MemPlace} (h : DataW.trod enc P w base spare held fuel t cs = some y) :
    ∃ (xs : List α) (v : Value), cs = [v] ∧ Rd w (.sl n0 (xs.map f)) [v] ∧ (∀ x ∈ xs, ok x) ∧ xs.length ≤ maxLen := by
  rcases DataW.trod_slice ht h with ⟨rfl, _⟩ | ⟨a, len, cap, elems, rest, n, hfu, rfl, _, _, hl, hm, hlen, hel, _, _⟩
  · exact ⟨[], _, rfl, by simp [Rd, RepC], by simp, by simp⟩
  · have key : ∀ k, k ≤ len → ∃ (xs : List α) (flat : List Value), xs.length = k ∧ flat.length = n0 * k ∧ RepCs (· < w.heap.size) w (xs.map f) flat ∧ (∀ x ∈ xs, ok x) ∧ ∀ (j : Nat) u, flat[j]? = some u → w.cell? (a.add j) = some u := by
      intro k
      induction k with
      | zero => intro _; exact ⟨[], [], rfl, rfl, by simp [RepCs], by simp, by simp⟩
      | succ k ih =>
        intro hk
        obtain ⟨xs, flat, h1, h2, h3, h4, h5⟩ := ih (by omega)
        have hek := hel k (by omega)
        rw [List.getElem?_eq_getElem (by omega)] at hek
        cases hcs : w.cells? base (a.add (k * P.cellsOf e)) (P.cellsOf e) with
        | none => rw [hcs] at hek; simp at hek
        | some cs' =>
          rw [hcs, Option.bind_some] at hek
          obtain ⟨x, hx1, hx2⟩ := helem n _ _ (by omega) hek
          obtain ⟨_, hcl, hcc⟩ := World.cells?_some hcs
          refine ⟨xs ++ [x], flat ++ cs', by simp [h1], by rw [List.length_append, h2, hcl, hc, Nat.mul_succ], ?_, ?_, ?_⟩
          · rw [List.map_append]; exact RepCs.append h3 (RepCs.one hx1)
          · intro z hz; rcases List.mem_append.1 hz with hz | hz
            · exact h4 z hz
            · simp at hz; subst hz; exact hx2
          · intro j u hj
            by_cases hjl : j < flat.length
            · rw [List.getElem?_append_left hjl] at hj; exact h5 j u hj
            · rw [List.getElem?_append_right (by omega)] at hj
              have hjn : j - flat.length < cs'.length := by
                rcases Nat.lt_or_ge (j - flat.length) cs'.length with h | h
                · exact h
                · simp [List.getElem?_eq_none h] at hj
              have := hcc (j - flat.length) (by omega)
              rw [Addr.add_add, hc, h2, Nat.mul_comm k n0, show n0 * k + (j - n0 * k) = j by omega] at this
              rw [this, ← h2]; exact hj
    obtain ⟨xs, flat, h1, h2, h3, h4, h5⟩ := key len (Nat.le_refl _)
    refine ⟨xs, _, rfl, ?_, h4, by omega⟩
    simp only [Rd, RepC]
    refine ⟨some a, cap, by simp [h1], fun hne => ?_⟩
    have hpos : 0 < len := by
      rcases Nat.eq_zero_or_pos len with h0 | h0
      · exfalso; apply hne; rw [List.map_eq_nil_iff, ← List.length_eq_zero_iff]; omega
      · exact h0
    have hfl : 0 < flat.length := by rw [h2]; exact Nat.mul_pos hn hpos
    have hc0 := h5 0 flat[0] (by simp)
    have hsp : a.spot = none := by
      have := World.cell?_spot hc0
      simpa [Addr.add] using this
    obtain ⟨b, o, s⟩ := a
    simp only at hsp
    subst hsp
    have hb : b < w.heap.size := by
      rw [add_plain] at hc0
      by_cases hlt : b < w.heap.size
      · exact hlt
      · simp [World.cell?, Array.getElem?_eq_none (Nat.not_lt.1 hlt)] at hc0
    refine ⟨hn, by simpa [h1] using hl, hm, b, o, flat, rfl, hb, fun j u hj => ?_, ?_, h3⟩
    · have := h5 j u hj; rwa [add_plain] at this
    · intro x hx; rw [List.mem_map] at hx; obtain ⟨z, _, rfl⟩ := hx; exact hw z

theorem trod_i64 {t : TypeId} (ht : P.underlying t = some (.int .i64)) {fuel : Nat} {cs : List Value} {y : DataW H × List MemPlace} (h : DataW.trod enc P w base spare held fuel t cs = some y) : ∃ n, cs = [.int .i64 n] ∧ i64ok n := by
  obtain ⟨n, h1, _, h2⟩ := DataW.trod_int ht h; exact ⟨n, h1, i64ok_wf h2⟩
theorem trod_str {t : TypeId} (ht : P.underlying t = some .string) {fuel : Nat} {cs : List Value} {y : DataW H × List MemPlace} (h : DataW.trod enc P w base spare held fuel t cs = some y) : ∃ l : List UInt8, cs = [.string ⟨l.toArray⟩] ∧ strok l := by
  obtain ⟨s, h1, _, h2⟩ := DataW.trod_string ht h
  exact ⟨s.data.toList, by simpa using h1, h2⟩
theorem trod_strs {t e : TypeId} (ht : P.underlying t = some (.slice e)) (he : P.underlying e = some .string) (hc : P.cellsOf e = 1)
    {fuel : Nat} {cs : List Value} {y : DataW H × List MemPlace} (h : DataW.trod enc P w base spare held fuel t cs = some y) : ∃ (ls : List (List UInt8)) (v : Value), cs = [v] ∧ Rd w (dSs ls) [v] ∧ (∀ s ∈ ls, strok s) ∧ ls.length ≤ maxLen :=
  trod_sl (f := dS) (ok := strok) ht hc (by decide) (fun _ => rfl) (fun n cs y _ h => by
    obtain ⟨l, rfl, hl⟩ := trod_str he h; exact ⟨l, by simp [Rd, dS, RepC], hl⟩) h
end
end Go.Proofs.YtpknmldpdoadgaaDoor

/- How a shape that comes in is read. -/
namespace Go.Proofs.YtpknmldpdoadgaaDoor
open Go.RowKit

theorem cellsShape : Tryd.prog.cellsOf 25 = 6 := by kernel_rfl
theorem cellsStr : Tryd.prog.cellsOf 9 = 1 := by kernel_rfl
theorem cellsInt : Tryd.prog.cellsOf 3 = 1 := by kernel_rfl
theorem cellsStrs : Tryd.prog.cellsOf 22 = 1 := by kernel_rfl
theorem cellsShapes : Tryd.prog.cellsOf 23 = 1 := by kernel_rfl

theorem Sh.wfs_of : ∀ {xs : List Sh}, (∀ x ∈ xs, x.wf) → Sh.wfs xs
  | [], _ => trivial
  | x :: xs, h => ⟨h x (by simp), Sh.wfs_of fun y hy => h y (by simp [hy])⟩

set_option maxRecDepth 100000 in
theorem trod_shape {H : Type} {enc : TypeId × Value → H} {w : World} {base : Nat} {spare : Nat → Bool} {held : Bool} : ∀ (fuel : Nat) (cs : List Value) (y : DataW H × List MemPlace),
    DataW.trod enc Tryd.prog w base spare held fuel 25 cs = some y → ∃ sh : Sh, Rd w sh.d cs ∧ sh.wf := by
  intro fuel
  induction fuel using Nat.strongRecOn with
  | _ fuel ih =>
    intro cs y h
    obtain ⟨xs, n, rfl, _, hlen, hxl, hx⟩ := DataW.trod_struct Tryd.underlying25 h
    rw [cellsShape] at hlen
    match cs, hlen with
    | [v0, v1, v2, v3, v4, v5], _ =>
      have hs : xs.length = 6 := hxl
      match xs, hs with
      | [y0, y1, y2, y3, y4, y5], _ =>
        have h0 : DataW.trod enc Tryd.prog w base spare held n 3 (List.take (Tryd.prog.cellsOf 3) (List.drop 0 [v0, v1, v2, v3, v4, v5])) = some y0 := hx 0 _ rfl
        have h1 : DataW.trod enc Tryd.prog w base spare held n 3 (List.take (Tryd.prog.cellsOf 3) (List.drop 1 [v0, v1, v2, v3, v4, v5])) = some y1 := hx 1 _ rfl
        have h2 : DataW.trod enc Tryd.prog w base spare held n 3 (List.take (Tryd.prog.cellsOf 3) (List.drop 2 [v0, v1, v2, v3, v4, v5])) = some y2 := hx 2 _ rfl
        have h3 : DataW.trod enc Tryd.prog w base spare held n 22 (List.take (Tryd.prog.cellsOf 22) (List.drop 3 [v0, v1, v2, v3, v4, v5])) = some y3 := hx 3 _ rfl
        have h4 : DataW.trod enc Tryd.prog w base spare held n 3 (List.take (Tryd.prog.cellsOf 3) (List.drop 4 [v0, v1, v2, v3, v4, v5])) = some y4 := hx 4 _ rfl
        have h5 : DataW.trod enc Tryd.prog w base spare held n 23 (List.take (Tryd.prog.cellsOf 23) (List.drop 5 [v0, v1, v2, v3, v4, v5])) = some y5 := hx 5 _ rfl
        simp only [cellsInt, cellsStrs, cellsShapes, List.drop, List.take] at h0 h1 h2 h3 h4 h5
        obtain ⟨k, e0, w0⟩ := trod_i64 Tryd.underlying3 h0
        obtain ⟨l, e1, w1⟩ := trod_i64 Tryd.underlying3 h1
        obtain ⟨hi, e2, w2⟩ := trod_i64 Tryd.underlying3 h2
        obtain ⟨m, e4, w4⟩ := trod_i64 Tryd.underlying3 h4
        obtain ⟨ks, z3, e3, r3, w3, l3⟩ := trod_strs Tryd.underlying22 Tryd.underlying9 cellsStr h3
        obtain ⟨kids, z5, e5, r5, w5, l5⟩ := trod_sl (f := Sh.d) (ok := Sh.wf) Tryd.underlying23 cellsShape (by decide) Sh.width (fun j cs y hj hh => ih j (by omega) cs y hh) h5
        simp only [List.cons.injEq, and_true] at e0 e1 e2 e3 e4 e5
        subst e0 e1 e2 e3 e4 e5
        refine ⟨.mk k l hi ks m kids, ?_, w0, w1, w2, ⟨by unfold maxLen at l3; omega, w3⟩, w4, by unfold maxLen at l5; omega, Sh.wfs_of w5⟩
        rw [← Sh.ds_map] at r5
        simp only [Rd, Sh.d, RepC, RepCs, dI]
        exact ⟨_, _, rfl, rfl, rfl, _, _, rfl, rfl, rfl, _, _, rfl, rfl, rfl, [v3], [.int .i64 m, v5], rfl, rfl, r3, [.int .i64 m], [v5], rfl, rfl, rfl, [v5], [], rfl, rfl, by simpa only [Rd, RepC] using r5, rfl⟩
end Go.Proofs.YtpknmldpdoadgaaDoor

/- A builder for rows that list laid variables: the contract is handed what the variables read as and the shape of the world. -/
namespace Go.Proofs.YtpknmldpdoadgaaDoor

theorem laid_of {H : Type} {enc : TypeId × Value → H} {C : Checked} {os : Os} {f : FuncId} {fn : Func} {s : ChangeSpec} {conds : List PathCond} {fresh handsOn again apart : Bool} (L : List (String × DataW Unit))
    (own : ownKnob C.prog.godebug = none) (started : os.Started) (noInit : C.prog.inits.idxOf? f = none) (hfn : C.prog.funcs[f]? = some fn)
    (wit : ∃ (w : World) (tape : Tape) (i : Input), w.os = os ∧ (w.forCall tape i).Shaped C.prog ∧ i.vars = [] ∧ Input.okWide C.prog (w.forCall tape i) .any w.heap.size f i ∧
      ((s.pre enc C.prog fn conds apart (w.forCall tape i).memory i.args ∧ laidMetH C.prog L (w.forCall tape i).memory) ∧ sizedMet enc C.prog fn (OpenSpec.ofChange s) apart (w.forCall tape i).memory i.args) ∧ ({} : Assume).holds C.prog (lone (Frame.enter C.prog f i.args .normal) [] (w.forCall tape i)))
    (walk : ∀ (W : World) (base : Nat) (args : Array Value) (ds gs : List (DataW H)) (before : List MemPlace), W.ShapedOpen C.prog → laidMetH C.prog L W →
      (∀ (j : Nat) t v, fn.params[j]? = some t → args[j]? = some v → Value.okWide C.prog W .any base t v) →
      DataW.Whole enc C.prog fn.params.toList s.vars apart W args.toList ds gs before →
      conds.all (PathCond.test C.prog ⟨fn.params.toList, ds, s.plain.varTypes C.prog, gs⟩) = true →
      Calls C.prog f args W fun e W' => ∃ v, e = .returned v ∧ s.post enc C.prog fn apart fresh handsOn again W args v W') :
    ReturnsInHanded {} C os f .any (fun w args => (s.pre enc C.prog fn conds apart w args ∧ laidMetH C.prog L w) ∧ sizedMet enc C.prog fn (OpenSpec.ofChange s) apart w args) (s.post enc C.prog fn apart fresh handsOn again) := by
  refine returnsInHanded_of_calls own started noInit wit fun w tape i _ shaped _ ok pre _ => ?_
  rcases ok with ⟨_, _, _, fn2, h2, _, _, _, _, vals⟩
  cases Option.some.inj (h2.symm.trans hfn)
  rcases pre with ⟨⟨⟨ds, gs, before, whole, cond⟩, met⟩, _⟩
  have met2 : laidMetH C.prog L (w.forCall tape i) := laidMetH.of_heap (by rfl) met
  refine (walk _ w.heap.size i.args ds gs before shaped met2 vals (DataW.Whole.of_heap (by rfl) whole) cond).mono ?_
  rintro e w2 ⟨v, rfl, hp⟩
  exact ChangeSpec.post_blind hp
end Go.Proofs.YtpknmldpdoadgaaDoor

/- The tables of UTF-8, as a row lists them. -/
namespace Go.Proofs.YtpknmldpdoadgaaDoor
open Go.RowKit Go.Lib Go.Shelf

theorem first_data : Go.Pinned.utf8First = firstData := by kernel_rfl
theorem accept_data : (Rows.laid_unicode_utf8_acceptRanges : DataW Unit) = acceptData := by kernel_rfl
theorem tabs_of {w : World} (h3 : VarReads Tryd.prog w "unicode/utf8.first" Go.Pinned.utf8First) (h4 : VarReads Tryd.prog w "unicode/utf8.acceptRanges" Rows.laid_unicode_utf8_acceptRanges) : Tabs w := by
  rw [first_data] at h3; rw [accept_data] at h4
  exact utf8Tabs_of_readsT (U8Types.of196 Tryd.laysValid) ⟨by kernel_rfl, by kernel_rfl, by kernel_rfl, by kernel_rfl, by kernel_rfl, by kernel_rfl, by kernel_rfl⟩ h3 h4
end Go.Proofs.YtpknmldpdoadgaaDoor
namespace Go.Proofs.YtpknmldpdoadgaaDoor.FnExactJoin
open Go.ChangeShapes Go.WideShapes Go.ChangeAt Go.RowKit Go.Joins
open Go.ChangeMaps (open_string shut_string)

theorem own : ownKnob Tryd.prog.godebug = none := by kernel_rfl
theorem laidOut : laidOutB Tryd.prog = true := by kernel_rfl

set_option maxRecDepth 100000 in
theorem lifted (os : Os) (started : os.Started) (H : Type) (enc : TypeId × Value → H) :
    ReturnsInHanded {} Tryd.checked os 3 .any (fun w args => (Rows.fnExactJoinSpec.pre enc Tryd.prog Tryd.f3 Rows.fnExactJoinRow.domain false w args ∧ laidMetH Tryd.prog Rows.fnExactJoinRow.laid w) ∧ sizedMet enc Tryd.prog Tryd.f3 (OpenSpec.ofChange Rows.fnExactJoinSpec) false w args) (Rows.fnExactJoinSpec.post enc Tryd.prog Tryd.f3 false true false false) := by
  refine laid_of (C := Tryd.checked) Rows.fnExactJoinRow.laid own started (by kernel_rfl) Tryd.func3
    (ChangeSpec.witness_shaped (enc := enc) (C := Tryd.checked) (os := os) (X := fun w _ => laidMetH Tryd.prog Rows.fnExactJoinRow.laid w) false (World.laidAll Tryd.prog os Rows.fnExactJoinRow.laid) #[.agg #[.int .i64 0, .int .i64 0, .int .i64 0, .slice none 0 0, .int .i64 0, .slice none 0 0], .agg #[.int .i64 0, .int .i64 0, .int .i64 0, .slice none 0 0, .int .i64 0, .slice none 0 0]] 8 (World.laidAll_os _ _ _)
      (World.shaped_of_ZipB (by kernel_rfl) (by kernel_rfl)) (by kernel_rfl) (by kernel_rfl) (by kernel_rfl)
      (by rw [MakeChecks.laidMetH_plain _ _ _ (by kernel_rfl)]; exact laidMet_laidAll _ (by kernel_rfl) (by kernel_rfl))) ?_
  intro W base args ds gs before hsh hL hval0 hW hcnd
  have hval : ∀ (j : Nat) t v, Tryd.f3.params[j]? = some t → args[j]? = some v → Value.okWide Tryd.prog W .any base t v := hval0
  have hW' := hW
  obtain ⟨p, q, hA0, hV, rfl, hfz, hnd⟩ := hW
  have hA : DataW.TrodAll enc Tryd.prog W 0 (fun _ => true) true Tryd.f3.params.toList args.toList ds p := hA0
  rw [Tryd.params3] at hA hval
  obtain ⟨v0, vs0, d0, ds0, p0, q0, hargs, rfl, rfl, h0, r0⟩ := trodAll_cons hA
  obtain ⟨v1, vs1, d1, ds1, p1, q1, rfl, rfl, rfl, h1, r1⟩ := trodAll_cons r0
  obtain ⟨rfl, rfl, rfl⟩ := trodAll_nil r1
  obtain rfl : args = #[v0, v1] := by cases args; simp_all
  obtain ⟨rfl, rfl⟩ := trodVars_none hV
  have k0 := h0
  have lt0 : ∀ x ∈ p0, x.block < W.heap.size := by obtain ⟨m, hm⟩ := k0; exact DataW.trod_lt m _ _ _ hm
  have k1 := h1
  have lt1 : ∀ x ∈ p1, x.block < W.heap.size := by obtain ⟨m, hm⟩ := k1; exact DataW.trod_lt m _ _ _ hm
  obtain ⟨a0, rfl, _⟩ := okWide_struct Tryd.underlying25 (hval 0 25 v0 rfl rfl)
  obtain ⟨fu0, hf0⟩ := h0
  obtain ⟨x0, hr0, hw0⟩ := trod_shape fu0 _ _ hf0
  obtain ⟨c0⟩ := a0
  obtain ⟨a1, rfl, _⟩ := okWide_struct Tryd.underlying25 (hval 1 25 v1 rfl rfl)
  obtain ⟨fu1, hf1⟩ := h1
  obtain ⟨x1, hr1, hw1⟩ := trod_shape fu1 _ _ hf1
  obtain ⟨c1⟩ := a1
  clear hA0 hval0
  have hL2 := hL
  rw [MakeChecks.laidMetH_plain _ _ _ (by kernel_rfl)] at hL2
  have hT := tabs_of (Lib.laidMet.reads hL2 (.tail _ (.head _))) (Lib.laidMet.reads hL2 (.head _))
  refine (exactJoinW x0 c0 x1 c1 W (ngl_of hsh) hT hr0 hw0 hr1 hw1).mono fun e W' ⟨he, bel⟩ => ?_
  subst he
  exact ⟨_, rfl, _, _, _, [], _, [], hW', trodAll_mk1 (shut_bool Tryd.underlying4 _), (trodAll_cons_mk (Below.trod laidOut (by kernel_rfl) (of_decide_eq_true (by kernel_rfl)) k0 bel lt0) (trodAll_cons_mk (Below.trod laidOut (by kernel_rfl) (of_decide_eq_true (by kernel_rfl)) k1 bel lt1) trodAll_mk0)), rfl, bel.frame _, fun h => by cases h⟩

theorem held : Rows.FnExactJoinSaid :=
  OpenClaim.holds_of_wide 3 Tryd.f3 rfl rfl rfl rfl rfl rfl rfl ⟨rfl, rfl, rfl, rfl, rfl⟩ rfl rfl rfl rfl rfl (by kernel_rfl) Tryd.func3 (by kernel_rfl)
    (of_decide_eq_true (by kernel_rfl)) (by unfold Func.isWrapper; first | (rw [if_pos (by decide +kernel)]; kernel_rfl) | (rw [if_neg (by decide +kernel)]; exact ⟨rfl, rfl⟩))
    (fun os started H enc _ => lifted os started H enc)

theorem proved : Rows.FnExactJoinCardSaid :=
  Claim7.holds_tied_plain_at .later [] [.data, .pinned] true Rows.fnExactJoinCard.stood.harness false
    held (fun _ h => by cases h) (by kernel_rfl) (fun _ h => by cases h) fnExactJoin_row_tie rfl ⟨rfl, rfl⟩ (by kernel_rfl) rfl
    (fun f fn hf hfn => by
      obtain rfl : f = 3 := Option.some.inj ((show Tryd.prog.funcNamed "loop.example/g00421/laws.FnExactJoin" = some 3 by kernel_rfl).symm.trans hf) |>.symm
      obtain rfl : fn = Tryd.f3 := (Option.some.inj (Tryd.func3.symm.trans hfn)).symm
      refine ⟨by kernel_rfl, fun j t ht => ?_⟩
      rw [Tryd.params3] at ht
      have hm : t ∈ [25, 25] := by simpa using Array.mem_of_getElem? ht
      have hall : ([25, 25].all fun u => !Tryd.prog.wantsStandIn u) = true := by kernel_rfl
      exact (show Tryd.prog.wantsStandIn t = false by simpa using List.all_eq_true.1 hall t hm))
    (by kernel_rfl)
end Go.Proofs.YtpknmldpdoadgaaDoor.FnExactJoin
